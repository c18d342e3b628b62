/- The example of the document: the sum of nine bytes. -/
import Derived.Test.YtdkbcjefbbkbcaaCB
import Derived.Test.YtdkbcjefbbkbcaaRows
import Derived.WalkKit
import Derived.Lib.Walk
import Derived.Lib.SlBytesConst
namespace Go.Proofs.Ytdkbcjefbbkbcaa.E
open Go Go.RowKit Go.Lib
set_option linter.unusedVariables false
set_option maxRecDepth 100000

def nine : List (BitVec 8) := [49#8, 50#8, 51#8, 52#8, 53#8, 54#8, 55#8, 56#8, 57#8]
theorem crc_nine : crcSum nine = 0x29b1#16 := by decide
/-- A call that is lent a new row. -/
theorem lent_new {P : Program} {f : FuncId} {l : List (BitVec 8)} {R : A → Mem → Prop} (h : LValid P f [.c (.bor 1 (nrow .u8 (l.map w8)))] [] R) (E : Env) (w : World) (hs : Sat E [] w) (w1 : World) (cs : Array Value) (ty : TypeId) (q : Nat × Nat)
    (hw1 : w1 = w.alloc (.cells cs ty q)) (hcs : cs.toList = l.map fun b => Value.int .u8 (w8 b)) :
    Calls P f #[.slice (some ⟨w.heap.size, 0, none⟩) l.length l.length] w1 fun e w' => ∃ u v m' E', e = .returned u ∧ R v m' ∧ ARep E' m' w' v u ∧ (m' = [] → Sat E [] w' ∧ Grow (fun _ => True) E [] w E [] w') := by
  have hnew : w1.heap[w.heap.size]? = some (.cells cs ty q) := by rw [hw1]; exact heap_alloc_new w _
  have hold : ∀ k, k < w.heap.size → w1.heap[k]? = w.heap[k]? := fun k hk => by rw [hw1]; exact heap_alloc_old w _ hk
  have hsz : w1.heap.size = w.heap.size + 1 := by rw [hw1]; exact Array.size_push _
  have hs1 : Sat ⟨E.F, fun k => E.B k ∨ k = w.heap.size, E.ρ⟩ [] w1 := ⟨fun id blk h => by simp at h, fun i j bi bj a x y h => by simp at h, fun i bi a x h => by simp at h, fun k hk => by
    rcases hk with h | h | h
    · have := hs.old k (.inl h); omega
    · have := hs.old k (.inr h); omega
    · omega, fun id ag l h => by simp at h⟩
  refine (h _ w1 _ hs1 rfl (fun i x hi => ?_)).mono ?_
  · cases i with
    | zero =>
      simp at hi
      subst hi
      have hlen : (nrow .u8 (l.map w8)).length = l.length := by simp [nrow]
      refine ⟨_, rfl, .inr ⟨some (at_ w.heap.size 0), l.length, fun i j => .int .u8 (w8 (l.getD i 0#8)), by rw [hlen]; rfl, by rw [hlen]; exact Nat.le_refl _, ⟨fun i r hi => ?_, fun i r j x hi hj => ?_, fun _ => ⟨_, _, rfl, .inr (.inr rfl)⟩⟩, fun i r j x hi hj => ?_⟩⟩
      · obtain ⟨x, rfl⟩ := nrow_get _ _ _ _ hi; rfl
      · unfold nrow at hi
        rw [List.map_map, List.getElem?_map] at hi
        obtain ⟨b, hb, rfl⟩ := Option.map_eq_some_iff.1 hi
        cases j with
        | zero =>
          refine ⟨_, _, rfl, .inr (.inr rfl), ?_⟩
          simp only [World.cell?, at_, hnew, Option.isSome_none, Bool.false_eq_true, if_false]
          rw [← Array.getElem?_toList, hcs, List.getElem?_map]
          simp [hb, List.getD_eq_getElem?_getD]
        | succ j => simp at hj
      · unfold nrow at hi
        rw [List.map_map, List.getElem?_map] at hi
        obtain ⟨b, hb, rfl⟩ := Option.map_eq_some_iff.1 hi
        cases j with
        | zero =>
          simp at hj
          subst hj
          show GRep _ w1 _ (Value.int .u8 (w8 (l.getD i 0#8)))
          rw [List.getD_eq_getElem?_getD, hb]
          exact .int .u8 (.sym (w8 b))
        | succ j => simp at hj
    | succ i => simp at hi
  · rintro e w' ⟨u, v, m', E', rfl, hR, hv, hvf, hmf, hs2, hg⟩
    refine ⟨u, v, m', E', rfl, hR, hv, fun hm => ?_⟩
    have hold2 : ∀ k, k < w.heap.size → w'.heap[k]? = w.heap[k]? := fun k hk => (hg.block k (by omega) (by rintro ⟨id, blk, x, h1, _⟩; simp at h1)).trans (hold k hk)
    have hle : w.heap.size ≤ w'.heap.size := by have := hg.size; omega
    refine ⟨⟨fun id blk h => by simp at h, fun i j bi bj a x y h => by simp at h, fun i bi a x h => by simp at h, fun k hk => by have := hs.old k hk; omega, fun id ag l h => by simp at h⟩, ?_⟩
    exact { F := fun _ h => h, B := fun _ h => h, ρ := fun _ _ => rfl, len := Nat.le_refl _, shape := fun id blk hid => by simp at hid, frz := fun k hk => hold2 k (hs.old k hk), stays := stays_below hold2,
            B' := fun _ h => h, os := hg.os.trans (by rw [hw1]; rfl), tape := hg.tape.trans (by rw [hw1]; rfl), output := hg.output.trans (by rw [hw1]; rfl), size := hle, block := fun k hk _ => hold2 k hk, newF := fun k h => .inl h, newρ := fun id a x blk _ h => by simp at h }
theorem told_new {P : Program} {f : FuncId} {l : List (BitVec 8)} {z : Int} (h : LValid P f [.c (.bor 1 (nrow .u8 (l.map w8)))] [] (fun v m1 => ∃ t, t = z ∧ v = u16 t ∧ m1 = [])) (E : Env) (w : World) (hs : Sat E [] w) (w1 : World) (cs : Array Value) (ty : TypeId) (q : Nat × Nat)
    (hw1 : w1 = w.alloc (.cells cs ty q)) (hcs : cs.toList = l.map fun b => Value.int .u8 (w8 b)) :
    Calls P f #[.slice (some ⟨w.heap.size, 0, none⟩) l.length l.length] w1 fun e w' => e = .returned (.int .u16 z) ∧ Sat E [] w' ∧ Grow (fun _ => True) E [] w E [] w' := by
  refine (lent_new h E w hs w1 cs ty q hw1 hcs).mono ?_
  rintro e w' ⟨u, v, m', E', rfl, ⟨t, rfl, rfl, rfl⟩, hv, hX⟩
  refine ⟨?_, hX rfl⟩
  rcases hv with hv | hv
  · cases hv
  · generalize u = u' at hv
    cases hv
    rfl
theorem wakes (P : Program) (hp : P = Try.prog) : LValid P 13 [] [] (fun v m1 => v = boo true ∧ m1 = []) := by
  have hsum := sum hp (nrow .u8 (nine.map w8)) nine rfl (by decide)
  subst hp
  intro E w vs hs hsz hr
  obtain rfl : vs = #[] := Array.eq_empty_of_size_eq_zero hsz
  have kc := fun (w : World) (C : Array Value) (n c : Nat) => Lib.run_convert_bytes_const (P := Try.prog) w 22 5 C n c Try.underlying22 Try.underlying5
  have hcall := told_new hsum E w hs _ (nine.map fun b => Value.int .u8 (w8 b)).toArray 5 (9, 10) rfl (by simp)
  go_enter Try.func13, Try.ntmps13
  go_wp2_with (go_at_call 11; refine hcall.mono ?_; rintro e w' ⟨rfl, h1, h2⟩)
  go_ret
  have e9 : (w16 (crcSum nine) == 10673) = true := by rw [crc_nine]; decide
  refine ⟨.bool true, _, [], E, ?_, ⟨rfl, rfl⟩, .inr (.bool (.sym true)), rfl, fun id blk h => by simp at h, h1, h2⟩
  simp [e9]
end Go.Proofs.Ytdkbcjefbbkbcaa.E
