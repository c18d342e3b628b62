/- The loop of Unpack: eight bytes as a number; one round. -/
import Derived.Test.YtccfcenhpmdemaaCH
import Derived.Test.YtccfcenhpmdemaaE18
namespace Go.Proofs.Ytccfcenhpmdemaa.E
open Go Go.RowKit
set_option linter.unusedVariables false
set_option maxRecDepth 100000

/-- A byte more. -/
def numStep (n : Int) (c : BitVec 8) : Int := rBin .or .u64 (rBin .shl .u64 n 8) (IntKind.u64.wrap (w8 c))
/-- The number of bytes. -/
def numB (bs : List (BitVec 8)) : Int := IntKind.i64.wrap (bs.foldl numStep 0)
def isV (v : Int) (bs : List (BitVec 8)) (j : Nat) : Prop := v = (bs.take j).foldl numStep 0
/-- A packet's cells, its data in cell c. -/
def pkC (k f t i l p s : Int) (b : Bool) (c : C) : List C := [.g (.int .i64 (.sym k)), .g (.int .i64 (.sym f)), .g (.int .i64 (.sym t)), .g (.int .i64 (.sym i)), .g (.int .i64 (.sym l)), .g (.int .i64 (.sym p)), .g (.int .i64 (.sym s)), .g (.bool (.sym b)), c]
section
variable {P : Program} (hp : P = Try.prog)
include hp
theorem number (L : List (List G)) (bs : List (BitVec 8)) (hL : isB L bs) (hn : bs.length ≤ 1000000000) : LValid P 42 [.c (.bor 1 L)] [] (fun v m1 => ∃ t, t = numB bs ∧ v = i64 t ∧ m1 = []) := by
  obtain ⟨I, hI⟩ := ref
  have hle : I.len L = bs.length := by rw [hI]; exact hL.len
  refine fn_sim hI (mo hp) (cc hp c42) fun Post hP => ?_
  cbv
  refine .loop_next (fun n ts m => ∃ (j : Nat) (z c v : Int), n = bs.length - j ∧ isN z j ∧ isN c bs.length ∧ j ≤ bs.length ∧ isV v bs j ∧ ts = fr 20 [(3, .one (.c (.g (.int .u64 (.sym v))))), (6, .one (.c (.bor 1 L))), (7, i64 c), (8, i64 z)] ∧ m = []) bs.length _ _ [] [] [3, 6, 7, 8] (by decide) rfl rfl rfl
    ⟨0, 0, I.ofNat (I.len L), 0, rfl, rfl, by rw [hle, hI]; rfl, Nat.zero_le _, rfl, rfl, rfl⟩ ?_
  rintro next n hnext ts m ⟨j, z, c, v, hnn, hz, hc, hj, hv, rfl, rfl⟩
  have hz1 : isN (I.bin .add .i64 z 1) (j + 1) := by unfold isN at hz ⊢; rw [hI]; simp only [ints, rBin]; rw [wrap_in] <;> omega
  have hjl : j < bs.length → j < I.len L := fun h => by rw [hle]; exact h
  have hget : j < bs.length → ∃ x, bs[j]? = some x ∧ L[j]? = some [.int .u8 (.sym (w8 x))] := fun h => ⟨_, List.getElem?_eq_getElem h, hL.get (List.getElem?_eq_getElem h)⟩
  have hv1 : ∀ x, bs[j]? = some x → isV (I.bin .or .u64 (I.bin .shl .u64 v 8) (I.conv .u64 (w8 x))) bs (j + 1) := fun x hx => by
    unfold isV at hv ⊢
    rw [List.take_add_one, hx, List.foldl_append, ← hv, hI]
    rfl
  have hend : j = bs.length → I.conv .i64 v = numB bs := fun h => by
    unfold isV at hv
    rw [hv, h, List.take_length, hI]
    rfl
  have hcm : (I.cmp .lss z c = true → j < bs.length) ∧ (I.cmp .lss z c = false → j = bs.length) := by
    unfold isN at hz hc
    rw [hI]
    simp only [ints, rCmp, decide_eq_true_eq, decide_eq_false_iff_not]
    omega
  cbv
  refine .br (fun g1 => ?_) (fun g1 => ?_)
  · have hj1 := hcm.1 g1
    obtain ⟨x, hx, hr⟩ := hget hj1
    have h2 := hv1 x hx
    cbv
    refine .idx j hz (hjl hj1) (.nth _ hr ?_)
    cbv
    exact hnext _ _ (bs.length - (j + 1)) [] [] [3, 6, 7, 8] _ _ (by omega) (by decide) rfl rfl rfl ⟨j + 1, _, c, _, rfl, hz1, hc, hj1, h2, rfl, rfl⟩
  · have hj1 := hend (hcm.2 g1)
    cbv
    exact hP _ _ [] [] _ _ (by decide) rfl rfl rfl rfl rfl ⟨_, hj1, rfl, rfl⟩
theorem chunk (L : List (List G)) : LValid P 41 [.c (.g (.rows 1 L)), .c (.g (.int .i64 (.lit 8)))] []
    (fun v m1 => v = .one (.c (.fn 47 [(0, 1, 0), (1, 1, 0)])) ∧ m1 = [.lit 1 [[.g (.rows 1 L)]], .lit 1 [[.g (.int .i64 (.lit 8))]]]) := by
  obtain ⟨I, hI⟩ := ref
  refine fn_sim hI (mo hp) (cc hp c41) fun Post hP => ?_
  cbv
  exact hP _ _ [0, 1] [] _ _ (by decide) rfl rfl rfl rfl rfl ⟨rfl, rfl⟩
set_option maxHeartbeats 2000000 in
theorem body_tree {I : Ints} (hI : I = ints) (k f t i l p s : Int) (b : Bool) (D : List (List G)) (d : List Int) (hD : isL .i64 D d) (hd : d.length ≤ 1000000) (C : List (List G)) (cs : List (BitVec 8)) (hC : isB C cs) (hcs : cs.length ≤ 1000000000)
    (next : List A → Mem → Tree) (hnext : ∀ (ts : List A) (m : Mem) (id : Nat) (D' : List (List G)), isL .i64 D' (d ++ [numB cs]) → invMem I [0, id] (.frz []) m = [.lit 9 [pkC k f t i l p s b (.row 1 1 none)], .sym 1 D'] → 2 ≤ id → Holds P I 2 (next ts m)) :
    Holds P I 2 (ev I x28b (fr 100 [(6, .one (.c (.ptr 0 (.lit 0) 9 0))), (7, .one (.c (.g (.rows 1 C))))]) [.lit 9 [pkC k f t i l p s b (.row 1 1 none)], .sym 1 D] fun e ts m => match e with | .normal => next ts m | .exit _ => .fail | .ret => .fail) := by
  have hle : I.len D = d.length := by rw [hI]; exact hD.len
  have hap : ∀ x : Int, isL .i64 (I.app D [[.int .i64 (.sym x)]]) (d ++ [x]) := fun x => by
    unfold isL at hD ⊢
    rw [hI, hD]
    simp [ints, nrow]
  have hapl : ∀ x : Int, I.len (I.app D [[.int .i64 (.sym x)]]) ≤ 1000001 := fun x => by
    have := (hap x).len
    rw [hI] at this ⊢
    show List.length _ ≤ _
    rw [show (ints.app D [[G.int .i64 (.sym x)]]).length = _ from this, List.length_append]
    simp
    omega
  cbv
  refine .drawn [0, 1] ?_
  cbv
  refine .both ?_ ?_
  · cbv
    refine .go [] [] [.bor 1] (number hp C cs hC hcs) rfl rfl rfl rfl rfl rfl ?_
    rintro v m1 ⟨x, hx, rfl, rfl⟩
    have h1 : isL .i64 (I.app D [[.int .i64 (.sym x)]]) (d ++ [numB cs]) := by rw [← hx]; exact hap x
    have h2 := hapl x
    cbv
    refine .most (Nat.le_trans (Nat.mul_le_mul_right 8 h2) (by decide)) (Nat.le_trans h2 (by decide)) ?_
    cbv
    exact hnext _ _ 3 _ h1 rfl (by decide)
  · cbv
    refine .go [] [] [.bor 1] (number hp C cs hC hcs) rfl rfl rfl rfl rfl rfl ?_
    rintro v m1 ⟨x, hx, rfl, rfl⟩
    have h1 : isL .i64 (I.app D [[.int .i64 (.sym x)]]) (d ++ [numB cs]) := by rw [← hx]; exact hap x
    have h2 := hapl x
    cbv
    refine .both ?_ ?_
    · cbv
      refine .most (Nat.le_trans (Nat.mul_le_mul_right 8 h2) (by decide)) (Nat.le_trans h2 (by decide)) ?_
      cbv
      exact hnext _ _ 3 _ h1 rfl (by decide)
    · cbv
      refine .most (Nat.le_trans (Nat.mul_le_mul_right 8 h2) (by decide)) (Nat.le_trans h2 (by decide)) ?_
      cbv
      exact hnext _ _ 3 _ h1 rfl (by decide)
/-- One round. -/
theorem body_run (k f t i l p s : Int) (b : Bool) (D : List (List G)) (d : List Int) (hD : isL .i64 D d) (hd : d.length ≤ 1000000) (C : List (List G)) (cs : List (BitVec 8)) (hC : isB C cs) (hcs : cs.length ≤ 1000000000)
    {l0 n : Nat} {Er : Env} {W : World} {a : Act} {Q : Exit → Act → World → Prop} (hQ : ¬ LetsOut Q) (hQ' : ∀ c a w, ¬ Q (.panic c) a w)
    (hA : At Er [.lit 9 [pkC k f t i l p s b (.row 1 1 none)], .sym 1 D] W (fr 100 [(6, .one (.c (.ptr 0 (.lit 0) 9 0))), (7, .one (.c (.g (.rows 1 C))))]) a) (had : a.defers = [])
    (hK : ∀ (E' : Env) (m' : Mem) (W' : World) (a' : Act) (id : Nat) (D' : List (List G)), isL .i64 D' (d ++ [numB cs]) → invMem ints [0, id] (.frz []) m' = [.lit 9 [pkC k f t i l p s b (.row 1 1 none)], .sym 1 D'] → 2 ≤ id → Sat E' m' W' →
      Grow (fun _ => True) Er [.lit 9 [pkC k f t i l p s b (.row 1 1 none)], .sym 1 D] W E' m' W' → Q .normal a' W') :
    (rfBody (rfOf P 28)).wpIn (Fence.wide.inRound l0) n P Q a W := by
  obtain ⟨I, hI⟩ := ref
  have e : rfBody (rfOf P 28) = .block 1 (.region 7 (bodyOps (rfBody (rfOf P 28))) true) := by rw [hp]; kernel_rfl
  have hd : noDefer (bodyOps (rfBody (rfOf P 28))) = true := by rw [hp]; kernel_rfl
  have hc : comp P [] (998 + 2) (rfBody (rfOf P 28)) = some x28b := by rw [hp]; exact c28b
  rw [e] at hc ⊢
  have hN : Now 0 Er [.lit 9 [pkC k f t i l p s b (.row 1 1 none)], .sym 1 D] W Er [.lit 9 [pkC k f t i l p s b (.row 1 1 none)], .sym 1 D] W (fr 100 [(6, .one (.c (.ptr 0 (.lit 0) 9 0))), (7, .one (.c (.g (.rows 1 C))))]) a := ⟨hA, Grow.refl _ _ _ _, Nat.zero_le _, fun _ _ => Nat.zero_le _⟩
  refine round_sim hI (mo hp) hc hd hQ hQ' hN (body_tree hp hI k f t i l p s b D d hD (by assumption) C cs hC hcs (fun ts m => .goal (∃ (id : Nat) (D' : List (List G)), isL .i64 D' (d ++ [numB cs]) ∧ invMem I [0, id] (.frz []) m = [.lit 9 [pkC k f t i l p s b (.row 1 1 none)], .sym 1 D'] ∧ 2 ≤ id)) (fun ts m id D' h1 h2 h3 => .goal ⟨id, D', h1, h2, h3⟩)) (fun ts' m' E' w' a' hk hN' => ?_)
  cases hk with
  | goal hk =>
  obtain ⟨id, D', h1, h2, h3⟩ := hk
  exact hK E' m' w' a' id D' h1 (hI ▸ h2) h3 hN'.sat hN'.grow
end
end Go.Proofs.Ytccfcenhpmdemaa.E
