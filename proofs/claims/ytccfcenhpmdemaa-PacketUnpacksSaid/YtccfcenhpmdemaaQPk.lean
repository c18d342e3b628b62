/- PacketWakes. -/
import Derived.Test.YtccfcenhpmdemaaPB
namespace Go.Proofs.Ytccfcenhpmdemaa.E
open Go
set_option linter.unusedVariables false
set_option maxRecDepth 100000

theorem set_self2 {α : Type} {T : List α} {k : Nat} {x : α} (h : T[k]? = some x) : T = T.set k x := by
  apply List.ext_getElem?
  intro i
  rw [List.getElem?_set]
  by_cases hi : k = i
  · subst hi
    rw [if_pos rfl, if_pos (List.getElem?_eq_some_iff.1 h).1, h]
  · rw [if_neg hi]
/-- A loop in which a counter alone changes. -/
theorem Holds.loop_cnt {P : Program} {I : Ints} {p : Nat} {x : X} {ts : List A} {m : Mem} {k : Ex → List A → Mem → Tree} (slot N : Nat) (T : List A) (M : Mem) (σ fz keep : List Nat)
    (hσ : σ.Nodup) (hp : σ.take p = List.range p) (hT : T = ((maskT keep 0 ts).map (A.inv I σ (.frz fz) m)).map A.sy) (hM : M = (invMem I σ (.frz fz) m).map Blk.sy) (h0 : T[slot]? = some (i64 0))
    (h : ∀ (next : List A → Mem → Tree) (i : Nat) (z : Int), isN z i → i ≤ N → (i < N → ∀ (ts1 : List A) (m1 : Mem) (z1 : Int) (σ fz keep : List Nat), isN z1 (i + 1) → σ.Nodup → σ.take p = List.range p → T.set slot (i64 z1) = ((maskT keep 0 ts1).map (A.inv I σ (.frz fz) m1)).map A.sy → M = (invMem I σ (.frz fz) m1).map Blk.sy → Holds P I p (next ts1 m1)) →
      Holds P I p (ev I x (T.set slot (i64 z)) M fun e ts m => match e with
        | .normal => next ts m
        | .exit i => k (.exit i) ts m
        | .ret => k .ret ts m)) : Holds P I p (.loop x ts m k) := by
  refine .loop_next (fun n ts m => ∃ (i : Nat) (z : Int), n = N - i ∧ isN z i ∧ i ≤ N ∧ ts = T.set slot (i64 z) ∧ m = M) N T M σ fz keep hσ hp hT hM ⟨0, 0, rfl, rfl, Nat.zero_le _, set_self2 h0, rfl⟩ ?_
  rintro next n hnext ts m ⟨i, z, hn, hz, hi, rfl, rfl⟩
  refine h next i z hz hi fun hlt ts1 m1 z1 σ fz keep hz1 hσ hp h1 h2 => ?_
  exact hnext ts1 m1 (N - (i + 1)) σ fz keep _ _ (by omega) hσ hp h1 h2 ⟨i + 1, z1, rfl, hz1, hlt, rfl, rfl⟩
def reqB (k : Int) : Bool := decide (1 ≤ k) && decide (k ≤ 6)
def ansI (k : Int) : Int := if k = 1 then 7 else if k = 2 ∨ k = 4 ∨ k = 5 then 8 else if k = 3 ∨ k = 6 then 9 else 0
theorem ans_req (k : Int) : (ansI k != 0) = reqB k := by
  unfold ansI reqB
  by_cases h : 1 ≤ k
  · by_cases h2 : k ≤ 6
    · rcases (show k = 1 ∨ k = 2 ∨ k = 3 ∨ k = 4 ∨ k = 5 ∨ k = 6 from by omega) with rfl | rfl | rfl | rfl | rfl | rfl <;> rfl
    · rw [if_neg (by omega), if_neg (by omega), if_neg (by omega), decide_eq_false h2, Bool.and_false]
      rfl
  · rw [if_neg (by omega), if_neg (by omega), if_neg (by omega), decide_eq_false h]
    rfl
section
variable {P : Program} (hp : P = Try.prog)
include hp
theorem wakes : LValid P 15 [] [] (fun v m1 => v = boo true ∧ m1 = []) := by
  refine LValid.boo ?_
  obtain ⟨I, hI⟩ := ref
  refine fn_sim hI (mo hp) (cc hp c15) fun Post hP => ?_
  cbv
  refine .go [] [] [.bor 1] (pack hp ⟨.lit 1, .lit 0, .lit 0, .lit 0, .lit 0, .lit 0, .lit 0, .lit false⟩ [] [] rfl) rfl rfl rfl rfl rfl rfl ?_
  rintro v m1 (⟨h, _⟩ | ⟨_, l, hl, rfl, rfl⟩)
  · exact absurd h (by decide)
  · have hn : I.len l = 12 := by rw [hI]; exact hl.len.trans (by rw [sealB_len, packB_len]; rfl)
    have h12 : I.cmp .eql (I.ofNat (I.len l)) 12 = true := by rw [hn, hI]; rfl
    cbv
    refine br_t (by rw [hI]; rfl) ?_
    cbv
    exact hP _ _ [] [] _ _ .nil rfl rfl rfl rfl rfl ⟨_, rfl, h12, rfl⟩
theorem request (k : Z) : LValid P 18 [.c (.g (.int .i64 k))] [] (fun v m1 => ∃ t, t = reqB k.val ∧ v = boo t ∧ m1 = []) := by
  refine bx (LValid.boo (LValid.sy ?_))
  show LValid P 18 [.c (.g (.int .i64 (.sym k.val)))] [] _
  generalize k.val = k
  obtain ⟨I, hI⟩ := ref
  have hX : ∀ q : Bool, I.cmp .geq k 1 = q → reqB k = (q && I.cmp .leq k 6) := fun q h => by rw [← h, hI]; rfl
  refine fn_sim hI (mo hp) (cc hp c18) fun Post hP => ?_
  cbv
  refine .br (fun g => ?_) (fun g => ?_)
  · have g := hX _ g
    cbv
    exact hP _ _ [] [] _ _ .nil rfl rfl rfl rfl rfl ⟨_, rfl, g.symm, rfl⟩
  · have g := hX _ g
    cbv
    exact hP _ _ [] [] _ _ .nil rfl rfl rfl rfl rfl ⟨_, rfl, g.symm, rfl⟩
theorem answer (k : Z) : LValid P 17 [.c (.g (.int .i64 k))] [] (fun v m1 => ∃ t, t = ansI k.val ∧ v = i64 t ∧ m1 = []) := by
  refine nx (LValid.num (LValid.sy ?_))
  show LValid P 17 [.c (.g (.int .i64 (.sym k.val)))] [] _
  generalize k.val = k
  obtain ⟨I, hI⟩ := ref
  refine fn_sim hI (mo hp) (cc hp c17) fun Post hP => ?_
  cbv
  repeat' (refine .br (fun g => ?_) (fun g => ?_) <;> cbv)
  all_goals refine hP _ _ [] [] _ _ .nil rfl rfl rfl rfl rfl ⟨_, rfl, ?_, rfl⟩
  all_goals
    clear hP
    subst hI
    simp_all [ansI, Z.val, ints, rCmp]
end
end Go.Proofs.Ytccfcenhpmdemaa.E
