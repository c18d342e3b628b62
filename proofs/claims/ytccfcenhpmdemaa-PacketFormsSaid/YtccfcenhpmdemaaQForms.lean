/- PacketForms. -/
import Derived.Test.YtccfcenhpmdemaaQPk
namespace Go.Proofs.Ytccfcenhpmdemaa.E
open Go
set_option linter.unusedVariables false
set_option maxRecDepth 100000

theorem byte_u64 (v : Int) (n : Nat) (h : n = 56 ∨ n = 48 ∨ n = 40 ∨ n = 32 ∨ n = 24 ∨ n = 16 ∨ n = 8 ∨ n = 0) : IntKind.u8.wrap (rBin .shr .u64 (IntKind.u64.wrap v) (IntKind.u64.wrap (n : Int))) = w8 (byteAt v n) := by
  have e : IntKind.u64.wrap (n : Int) = (n : Int) := by rw [IntKind.wrap_u64]; omega
  rw [e]
  show IntKind.u8.wrap ((IntKind.u64.wrap v).fdiv (2 ^ (min ((n : Int)).toNat 64))) = _
  unfold byteAt
  rw [w8_ofInt, u8w, Int.toNat_natCast, Nat.min_eq_left (by omega), IntKind.wrap_u64]
  rcases h with rfl | rfl | rfl | rfl | rfl | rfl | rfl | rfl
  · show (v % 18446744073709551616).fdiv 72057594037927936 % 256 = v.fdiv 72057594037927936 % 256
    rw [Int.fdiv_eq_ediv_of_nonneg _ (by decide), Int.fdiv_eq_ediv_of_nonneg _ (by decide)]
    omega
  · show (v % 18446744073709551616).fdiv 281474976710656 % 256 = v.fdiv 281474976710656 % 256
    rw [Int.fdiv_eq_ediv_of_nonneg _ (by decide), Int.fdiv_eq_ediv_of_nonneg _ (by decide)]
    omega
  · show (v % 18446744073709551616).fdiv 1099511627776 % 256 = v.fdiv 1099511627776 % 256
    rw [Int.fdiv_eq_ediv_of_nonneg _ (by decide), Int.fdiv_eq_ediv_of_nonneg _ (by decide)]
    omega
  · show (v % 18446744073709551616).fdiv 4294967296 % 256 = v.fdiv 4294967296 % 256
    rw [Int.fdiv_eq_ediv_of_nonneg _ (by decide), Int.fdiv_eq_ediv_of_nonneg _ (by decide)]
    omega
  · show (v % 18446744073709551616).fdiv 16777216 % 256 = v.fdiv 16777216 % 256
    rw [Int.fdiv_eq_ediv_of_nonneg _ (by decide), Int.fdiv_eq_ediv_of_nonneg _ (by decide)]
    omega
  · show (v % 18446744073709551616).fdiv 65536 % 256 = v.fdiv 65536 % 256
    rw [Int.fdiv_eq_ediv_of_nonneg _ (by decide), Int.fdiv_eq_ediv_of_nonneg _ (by decide)]
    omega
  · show (v % 18446744073709551616).fdiv 256 % 256 = v.fdiv 256 % 256
    rw [Int.fdiv_eq_ediv_of_nonneg _ (by decide), Int.fdiv_eq_ediv_of_nonneg _ (by decide)]
    omega
  · show (v % 18446744073709551616).fdiv 1 % 256 = v.fdiv 1 % 256
    rw [Int.fdiv_eq_ediv_of_nonneg _ (by decide), Int.fdiv_eq_ediv_of_nonneg _ (by decide)]
    omega
section
variable {P : Program} (hp : P = Try.prog)
include hp
set_option maxHeartbeats 32000000 in
theorem forms (k0 f0 t0 i0 l0 p0 s0 : Int) (b0 : Bool) (W0 : List (List G)) (us : List Int) (h0 : isL .i64 W0 us) (hW : W0.length * 8 ≤ 140737488355328) : LValid P 3 [gi .i64 k0, gi .i64 f0, gi .i64 t0, gi .i64 i0, gi .i64 l0, gi .i64 p0, gi .i64 s0, gb b0, .c (.g (.rows 1 W0))] [] (fun v _ => ∃ b : BB, b.val = true ∧ v = .one (.c (.g (.bool b)))) := by
  obtain ⟨I, hI⟩ := ref
  refine fn_sim hI (mo hp) (cc hp c3) fun Post hP => ?_
  cbv
  refine .go [] [] [] (within hp _ _) rfl rfl rfl rfl rfl rfl ?_
  rintro r m1 ⟨k2, hk, rfl, rfl⟩
  cbv
  refine .go [] [] [] (within hp _ _) rfl rfl rfl rfl rfl rfl ?_
  rintro r m1 ⟨f1, hf, rfl, rfl⟩
  cbv
  refine .go [] [] [] (within hp _ _) rfl rfl rfl rfl rfl rfl ?_
  rintro r m1 ⟨t1, ht, rfl, rfl⟩
  cbv
  refine .go [] [] [] (within hp _ _) rfl rfl rfl rfl rfl rfl ?_
  rintro r m1 ⟨i1, hi, rfl, rfl⟩
  cbv
  refine .go [] [] [] (within hp _ _) rfl rfl rfl rfl rfl rfl ?_
  rintro r m1 ⟨l1, hl, rfl, rfl⟩
  cbv
  refine .go [] [] [] (within hp _ _) rfl rfl rfl rfl rfl rfl ?_
  rintro r m1 ⟨p2, hpp, rfl, rfl⟩
  cbv
  refine .go [] [] [] (within hp _ _) rfl rfl rfl rfl rfl rfl ?_
  rintro r m1 ⟨s1, hs, rfl, rfl⟩
  have rk : 0 ≤ k2 ∧ k2 < 9 := by rw [hk]; exact win_in k0 9 (by omega) (by omega)
  have rf : 0 ≤ f1 ∧ f1 < 6 := by rw [hf]; exact win_in f0 6 (by omega) (by omega)
  have rt : 0 ≤ t1 ∧ t1 < 6 := by rw [ht]; exact win_in t0 6 (by omega) (by omega)
  have ri : 0 ≤ i1 ∧ i1 < 4096 := by rw [hi]; exact win_in i0 4096 (by omega) (by omega)
  have rl : 0 ≤ l1 ∧ l1 < 8 := by rw [hl]; exact win_in l0 8 (by omega) (by omega)
  have rp : 0 ≤ p2 ∧ p2 < 7 := by rw [hpp]; exact win_in p0 7 (by omega) (by omega)
  have rs : 0 ≤ s1 ∧ s1 < 3 := by rw [hs]; exact win_in s0 3 (by omega) (by omega)
  have ek : I.bin .add .i64 1 k2 = 1 + k2 := by rw [hI]; show IntKind.i64.wrap (1 + k2) = _; rw [wrap_in] <;> omega
  have ep : I.bin .sub .i64 p2 1 = p2 - 1 := by rw [hI]; show IntKind.i64.wrap (p2 - 1) = _; rw [wrap_in] <;> omega
  generalize hk1 : I.bin .add .i64 1 k2 = k1 at ek
  generalize hp1 : I.bin .sub .i64 p2 1 = p1 at ep
  clear hk hf ht hi hl hpp hs
  cbv
  refine .go [] [] [.bor 1] (cut hp W0 (.lit 4) 4 rfl hW) rfl rfl rfl rfl rfl rfl ?_
  rintro r m1 ⟨l, hl0, rfl, rfl⟩
  obtain ⟨xs, hxs⟩ : ∃ xs, xs = us.take 4 := ⟨_, rfl⟩
  have hl : isL .i64 l xs := by rw [hl0, hxs, h0]; unfold isL nrow; rw [List.map_take]
  have hxl : xs.length ≤ 4 := by rw [hxs, List.length_take]; omega
  have hln : I.len l = xs.length := by rw [hI]; exact hl.len
  clear hl0 hxs
  have hck : checkB ⟨k1, f1, t1, i1, l1, p1, s1, b0, xs⟩ = true := by
    unfold checkB belB
    simp
    omega
  have q1 : I.conv .u8 k1 = w8 (BitVec.ofInt 8 k1) := by rw [hI]; exact byte_conv k1
  have q2 : I.conv .u8 f1 = w8 (BitVec.ofInt 8 f1) := by rw [hI]; exact byte_conv f1
  have q3 : I.conv .u8 t1 = w8 (BitVec.ofInt 8 t1) := by rw [hI]; exact byte_conv t1
  have q4 : I.conv .u8 (I.bin .quo .i64 i1 256) = w8 (byteAt i1 8) := by
    rw [hI]
    show IntKind.u8.wrap (IntKind.i64.wrap (i1.tdiv 256)) = _
    unfold byteAt
    rw [w8_ofInt, u8w, Int.tdiv_eq_ediv_of_nonneg (by omega), wrap_in _ (by omega) (by omega)]
    show _ = i1.fdiv 256 % 256
    rw [Int.fdiv_eq_ediv_of_nonneg _ (by decide)]
  have q5 : I.conv .u8 (I.bin .rem .i64 i1 256) = w8 (BitVec.ofInt 8 i1) := by
    rw [hI]
    show IntKind.u8.wrap (i1.tmod 256) = _
    rw [w8_ofInt, u8w, Int.tmod_eq_emod_of_nonneg (by omega)]
    omega
  have q6 : I.conv .u8 l1 = w8 (BitVec.ofInt 8 l1) := by rw [hI]; exact byte_conv l1
  have q7 : I.conv .u8 (I.bin .add .i64 p1 1) = w8 (BitVec.ofInt 8 (IntKind.i64.wrap (p1 + 1))) := by rw [hI]; exact byte_conv _
  have q8 : I.conv .u8 s1 = w8 (BitVec.ofInt 8 s1) := by rw [hI]; exact byte_conv s1
  have q9 : I.conv .u8 (I.ofNat (I.len l)) = w8 (BitVec.ofInt 8 (xs.length : Int)) := by rw [hln, hI]; exact byte_conv _
  have hH : ∀ fb : Int, fb = w8 (if b0 then 1#8 else 0#8) → isB [[.int .u8 (.sym (I.conv .u8 k1))], [.int .u8 (.sym (I.conv .u8 f1))], [.int .u8 (.sym (I.conv .u8 t1))], [.int .u8 (.sym (I.conv .u8 (I.bin .quo .i64 i1 256)))], [.int .u8 (.sym (I.conv .u8 (I.bin .rem .i64 i1 256)))], [.int .u8 (.sym (I.conv .u8 l1))], [.int .u8 (.sym (I.conv .u8 (I.bin .add .i64 p1 1)))], [.int .u8 (.sym (I.conv .u8 s1))], [.int .u8 (.sym fb)], [.int .u8 (.sym (I.conv .u8 (I.ofNat (I.len l))))]] (headB ⟨k1, f1, t1, i1, l1, p1, s1, b0, xs⟩) := fun fb hfb => by
    rw [q1, q2, q3, q4, q5, q6, q7, q8, q9, hfb]
    rfl
  obtain ⟨HL, hHL⟩ : ∃ HL, HL = headB ⟨k1, f1, t1, i1, l1, p1, s1, b0, xs⟩ := ⟨_, rfl⟩
  have hHl : HL.length = 10 := by rw [hHL]; rfl
  have hPK : packB ⟨k1, f1, t1, i1, l1, p1, s1, b0, xs⟩ = HL ++ xs.flatMap wordB := by rw [hHL]; rfl
  have hPl : (packB ⟨k1, f1, t1, i1, l1, p1, s1, b0, xs⟩).length ≤ 1000 := by rw [packB_len]; show 10 + 8 * xs.length ≤ _; omega
  rw [← hHL] at hH
  clear q1 q2 q3 q4 q5 q6 q7 q8 q9 hHL rk rf rt ri rl rp rs ek ep
  have hz1' : ∀ (z : Int) (j : Nat), j ≤ 4 → isN z j → isN (I.bin .add .i64 z 1) (j + 1) := fun z j hj hz => by unfold isN at hz ⊢; rw [hI]; simp only [ints, rBin]; rw [wrap_in] <;> omega
  have hget : ∀ j, j < xs.length → ∃ x, xs[j]? = some x ∧ l[j]? = some [.int .i64 (.sym x)] := fun j h => ⟨_, List.getElem?_eq_getElem h, by rw [hl.get, List.getElem?_eq_getElem h]; rfl⟩
  have hdge : ∀ (z : Int) (k : Nat) (q : Bool), isW z k → I.cmp .geq z 0 = q → decide (k < 8) = q := fun z k q hz h => by
    have hzv : z = 56 - 8 * (k : Int) := hz
    rw [hI] at h
    rw [← h]
    show _ = decide (z ≥ 0)
    by_cases h2 : k < 8
    · rw [decide_eq_true h2, decide_eq_true (by omega)]
    · rw [decide_eq_false h2, decide_eq_false (by omega)]
  have hzw : ∀ (z : Int) (k : Nat), isW z k → k < 8 → isW (I.bin .sub .i64 z 8) (k + 1) := fun z k hz h => by
    have hzv : z = 56 - 8 * (k : Int) := hz
    unfold isW
    rw [hI, hzv]
    show IntKind.i64.wrap (56 - 8 * (k : Int) - 8) = _
    rw [wrap_in] <;> omega
  have hznn : ∀ (z : Int) (k : Nat), isW z k → k < 8 → 0 ≤ I.conv .u64 z := fun z k hz h => by
    have hzv : z = 56 - 8 * (k : Int) := hz
    rw [hI]
    show 0 ≤ IntKind.u64.wrap z
    rw [IntKind.wrap_u64]
    omega
  have hby : ∀ (z x : Int) (k : Nat), isW z k → k < 8 → I.conv .u8 (I.bin .shr .u64 (I.conv .u64 x) (I.conv .u64 z)) = w8 (byteAt x (56 - 8 * k)) := fun z x k hz h => by
    have hzv : z = 56 - 8 * (k : Int) := hz
    have e : z = ((56 - 8 * k : Nat) : Int) := by omega
    rw [hI, e]
    exact byte_u64 x _ (by omega)
  have htk : ∀ (x : Int) (k : Nat), k < 8 → (wordB x).take (k + 1) = (wordB x).take k ++ [byteAt x (56 - 8 * k)] := fun x k h => by
    match k, h with
    | 0, _ => rfl
    | 1, _ => rfl
    | 2, _ => rfl
    | 3, _ => rfl
    | 4, _ => rfl
    | 5, _ => rfl
    | 6, _ => rfl
    | 7, _ => rfl
  have hap : ∀ (B : List (List G)) (pre : List (BitVec 8)) (z x : Int) (k : Nat), isB B (pre ++ (wordB x).take k) → isW z k → k < 8 → isB (I.app B [[.int .u8 (.sym (I.conv .u8 (I.bin .shr .u64 (I.conv .u64 x) (I.conv .u64 z))))]]) (pre ++ (wordB x).take (k + 1)) := fun B pre z x k hB hz h => by
    rw [hby z x k hz h, htk x k h, hI, ← List.append_assoc]
    exact hB.app rfl
  have hapl : ∀ (B : List (List G)) (pre : List (BitVec 8)) (x : Int) (k : Nat), isB B (pre ++ (wordB x).take k) → pre.length ≤ 60 → I.len B ≤ 70 := fun B pre x k hB h => by
    have := hB.len
    rw [List.length_append, List.length_take] at this
    have h8 : (wordB x).length = 8 := rfl
    rw [hI]
    show B.length ≤ _
    omega
  have hpre : ∀ j, j ≤ xs.length → (HL ++ (xs.take j).flatMap wordB).length ≤ 60 := fun j hj => by
    rw [List.length_append, hHl, words_len, List.length_take]
    omega
  have hnextB : ∀ (B : List (List G)) (j : Nat) (x : Int), xs[j]? = some x → isB B (HL ++ (xs.take j).flatMap wordB ++ (wordB x).take 8) → isB B (HL ++ (xs.take (j + 1)).flatMap wordB) := fun B j x hx hB => by
    rw [List.take_add_one, hx, List.flatMap_append, ← List.append_assoc]
    have h8 : (wordB x).take 8 = wordB x := rfl
    rw [h8] at hB
    simpa using hB
  cbv
  refine .br (fun g0 => ?_) (fun g0 => ?_)
  · cbv
    have hB0 := hH 1 (by rw [show b0 = true from g0]; rfl)
    refine .loop_next (fun n ts m => ∃ (j : Nat) (z c : Int) (B : List (List G)) (cl : C) (blk : Blk), n = xs.length - j ∧ isN z j ∧ isN c xs.length ∧ j ≤ xs.length ∧ isB B (HL ++ (xs.take j).flatMap wordB) ∧
        ((cl = .row 2 1 (some (.lit 10)) ∧ blk = .lit 1 [[.g (.int .u8 (.sym (I.conv .u8 k1)))], [.g (.int .u8 (.sym (I.conv .u8 f1)))], [.g (.int .u8 (.sym (I.conv .u8 t1)))], [.g (.int .u8 (.sym (I.conv .u8 (I.bin .quo .i64 i1 256))))], [.g (.int .u8 (.sym (I.conv .u8 (I.bin .rem .i64 i1 256))))], [.g (.int .u8 (.sym (I.conv .u8 l1)))], [.g (.int .u8 (.sym (I.conv .u8 (I.bin .add .i64 p1 1))))], [.g (.int .u8 (.sym (I.conv .u8 s1)))], [.g (.int .u8 (.sym 1))], [.g (.int .u8 (.sym (I.conv .u8 (I.ofNat (I.len l)))))]] ∧ B = [[.int .u8 (.sym (I.conv .u8 k1))], [.int .u8 (.sym (I.conv .u8 f1))], [.int .u8 (.sym (I.conv .u8 t1))], [.int .u8 (.sym (I.conv .u8 (I.bin .quo .i64 i1 256)))], [.int .u8 (.sym (I.conv .u8 (I.bin .rem .i64 i1 256)))], [.int .u8 (.sym (I.conv .u8 l1))], [.int .u8 (.sym (I.conv .u8 (I.bin .add .i64 p1 1)))], [.int .u8 (.sym (I.conv .u8 s1))], [.int .u8 (.sym 1)], [.int .u8 (.sym (I.conv .u8 (I.ofNat (I.len l))))]]) ∨ (cl = .row 2 1 none ∧ blk = .sym 1 B)) ∧
        ts = fr 118 [(19, .one (.c (.ptr 1 (.lit 0) 9 0))), (21, .one (.c cl)), (82, .one (.c (.row 0 1 none))), (83, i64 c), (84, i64 z)] ∧ m = [.sym 1 l, .lit 9 [[.g (.int .i64 (.sym k1)), .g (.int .i64 (.sym f1)), .g (.int .i64 (.sym t1)), .g (.int .i64 (.sym i1)), .g (.int .i64 (.sym l1)), .g (.int .i64 (.sym p1)), .g (.int .i64 (.sym s1)), .g (.bool (.sym b0)), .row 0 1 none]], blk])
      xs.length _ _ [0, 1, 2] [] [19, 21, 82, 83, 84] (by decide) rfl rfl (by rw [← hk1, ← hp1]; rfl) ⟨0, 0, I.ofNat (I.len l), _, _, _, rfl, rfl, by rw [hln, hI]; rfl, Nat.zero_le _, by rw [List.take_zero, List.flatMap_nil, List.append_nil]; exact hB0, .inl ⟨rfl, by rw [← hk1, ← hp1]; rfl, rfl⟩, rfl, rfl⟩ ?_
    rintro next n hnext ts m ⟨j, z, c, B, cl, blk, hn, hz, hc, hj, hB, hcl, rfl, rfl⟩
    have hz1 := hz1' z j (by omega) hz
    rcases hcl with ⟨rfl, rfl, rfl⟩ | ⟨rfl, rfl⟩
    · as_aux_lemma =>
        cbv
        refine .br (fun g1 => ?_) (fun g1 => ?_)
        · have hj1 : j < xs.length := by
            have : z < c := by simpa [hI, ints, rCmp] using g1
            unfold isN at hz hc
            omega
          obtain ⟨x, hx, hr⟩ := hget j hj1
          have hjl : j < I.len l := by rw [hln]; exact hj1
          cbv
          refine .idx j hz hjl ?_
          cbv
          refine .nth _ hr ?_
          cbv
          refine .loop_next (fun n ts m => ∃ (k : Nat) (u : Int) (B2 : List (List G)) (cl : C) (blk : Blk), n = 8 - k ∧ isW u k ∧ k ≤ 8 ∧ isB B2 (HL ++ (xs.take j).flatMap wordB ++ (wordB x).take k) ∧ ((cl = .row 2 1 (some (.lit 10)) ∧ blk = .lit 1 [[.g (.int .u8 (.sym (I.conv .u8 k1)))], [.g (.int .u8 (.sym (I.conv .u8 f1)))], [.g (.int .u8 (.sym (I.conv .u8 t1)))], [.g (.int .u8 (.sym (I.conv .u8 (I.bin .quo .i64 i1 256))))], [.g (.int .u8 (.sym (I.conv .u8 (I.bin .rem .i64 i1 256))))], [.g (.int .u8 (.sym (I.conv .u8 l1)))], [.g (.int .u8 (.sym (I.conv .u8 (I.bin .add .i64 p1 1))))], [.g (.int .u8 (.sym (I.conv .u8 s1)))], [.g (.int .u8 (.sym 1))], [.g (.int .u8 (.sym (I.conv .u8 (I.ofNat (I.len l)))))]] ∧ B2 = [[.int .u8 (.sym (I.conv .u8 k1))], [.int .u8 (.sym (I.conv .u8 f1))], [.int .u8 (.sym (I.conv .u8 t1))], [.int .u8 (.sym (I.conv .u8 (I.bin .quo .i64 i1 256)))], [.int .u8 (.sym (I.conv .u8 (I.bin .rem .i64 i1 256)))], [.int .u8 (.sym (I.conv .u8 l1))], [.int .u8 (.sym (I.conv .u8 (I.bin .add .i64 p1 1)))], [.int .u8 (.sym (I.conv .u8 s1))], [.int .u8 (.sym 1)], [.int .u8 (.sym (I.conv .u8 (I.ofNat (I.len l))))]]) ∨ (cl = .row 2 1 none ∧ blk = .sym 1 B2)) ∧
              ts = fr 118 [(19, .one (.c (.ptr 1 (.lit 0) 9 0))), (21, .one (.c cl)), (23, i64 x), (24, i64 u), (82, .one (.c (.row 0 1 none))), (83, i64 c), (84, i64 z)] ∧ m = [.sym 1 l, .lit 9 [[.g (.int .i64 (.sym k1)), .g (.int .i64 (.sym f1)), .g (.int .i64 (.sym t1)), .g (.int .i64 (.sym i1)), .g (.int .i64 (.sym l1)), .g (.int .i64 (.sym p1)), .g (.int .i64 (.sym s1)), .g (.bool (.sym b0)), .row 0 1 none]], blk])
            8 _ _ [0, 1, 2] [] [19, 21, 23, 24, 82, 83, 84] (by decide) rfl rfl rfl ⟨0, 56, _, _, _, rfl, rfl, by omega, by rw [List.take_zero, List.append_nil]; exact hB, .inl ⟨rfl, rfl, rfl⟩, rfl, rfl⟩ ?_
          rintro next2 n2 hnext2 ts m ⟨k, u, B2, cl, blk, hn2, hu, hk, hB2, hcl, rfl, rfl⟩
          rcases hcl with ⟨rfl, rfl, rfl⟩ | ⟨rfl, rfl⟩
          · cbv
            refine .br (fun g2 => ?_) (fun g2 => ?_)
            · have hk8 : k < 8 := of_decide_eq_true (hdge u k _ hu g2)
              have hu1 := hzw u k hu hk8
              have hB3 := hap _ _ u x k hB2 hu hk8
              have hB3l := hapl _ _ x (k + 1) hB3 (hpre j hj)
              cbv
              refine .nonneg (hznn u k hu hk8) ?_
              cbv
              refine .most (Nat.le_trans (Nat.mul_le_mul_right 1 hB3l) (by decide)) (Nat.le_trans hB3l (by decide)) ?_
              cbv
              exact hnext2 _ _ (8 - (k + 1)) [0, 1, 4] [] [19, 21, 23, 24, 82, 83, 84] _ _ (by omega) (by decide) rfl rfl rfl ⟨k + 1, _, _, _, _, rfl, hu1, hk8, hB3, .inr ⟨rfl, rfl⟩, rfl, rfl⟩
            · have hk8 : ¬ k < 8 := of_decide_eq_false (hdge u k _ hu g2)
              exfalso
              have h1 := hB2.len
              rw [List.length_append, List.length_append, hHl, List.length_take] at h1
              have h8 : (wordB x).length = 8 := rfl
              have h10 : ([[.int .u8 (.sym (I.conv .u8 k1))], [.int .u8 (.sym (I.conv .u8 f1))], [.int .u8 (.sym (I.conv .u8 t1))], [.int .u8 (.sym (I.conv .u8 (I.bin .quo .i64 i1 256)))], [.int .u8 (.sym (I.conv .u8 (I.bin .rem .i64 i1 256)))], [.int .u8 (.sym (I.conv .u8 l1))], [.int .u8 (.sym (I.conv .u8 (I.bin .add .i64 p1 1)))], [.int .u8 (.sym (I.conv .u8 s1))], [.int .u8 (.sym 1)], [.int .u8 (.sym (I.conv .u8 (I.ofNat (I.len l))))]] : List (List G)).length = 10 := rfl
              omega
          · cbv
            refine .br (fun g2 => ?_) (fun g2 => ?_)
            · have hk8 : k < 8 := of_decide_eq_true (hdge u k _ hu g2)
              have hu1 := hzw u k hu hk8
              have hB3 := hap _ _ u x k hB2 hu hk8
              have hB3l := hapl _ _ x (k + 1) hB3 (hpre j hj)
              cbv
              refine .nonneg (hznn u k hu hk8) ?_
              cbv
              refine .most (Nat.le_trans (Nat.mul_le_mul_right 1 hB3l) (by decide)) (Nat.le_trans hB3l (by decide)) ?_
              cbv
              exact hnext2 _ _ (8 - (k + 1)) [0, 1, 4] [] [19, 21, 23, 24, 82, 83, 84] _ _ (by omega) (by decide) rfl rfl rfl ⟨k + 1, _, _, _, _, rfl, hu1, hk8, hB3, .inr ⟨rfl, rfl⟩, rfl, rfl⟩
            · have hk8 : k = 8 := by have := of_decide_eq_false (hdge u k _ hu g2); omega
              subst hk8
              have hB4 := hnextB _ j x hx hB2
              cbv
              exact hnext _ _ (xs.length - (j + 1)) [0, 1, 2] [] [19, 21, 82, 83, 84] _ _ (by omega) (by decide) rfl rfl rfl ⟨j + 1, _, c, _, _, _, rfl, hz1, hc, hj1, hB4, .inr ⟨rfl, rfl⟩, rfl, rfl⟩
        · have hj1 : j = xs.length := by
            have : ¬ z < c := by simpa [hI, ints, rCmp] using g1
            unfold isN at hz hc
            omega
          have hBe : isB [[.int .u8 (.sym (I.conv .u8 k1))], [.int .u8 (.sym (I.conv .u8 f1))], [.int .u8 (.sym (I.conv .u8 t1))], [.int .u8 (.sym (I.conv .u8 (I.bin .quo .i64 i1 256)))], [.int .u8 (.sym (I.conv .u8 (I.bin .rem .i64 i1 256)))], [.int .u8 (.sym (I.conv .u8 l1))], [.int .u8 (.sym (I.conv .u8 (I.bin .add .i64 p1 1)))], [.int .u8 (.sym (I.conv .u8 s1))], [.int .u8 (.sym 1)], [.int .u8 (.sym (I.conv .u8 (I.ofNat (I.len l))))]] (packB ⟨k1, f1, t1, i1, l1, p1, s1, b0, xs⟩) := by
            rw [hj1, List.take_length] at hB
            rw [hPK]
            exact hB
          cbv
          refine .go [] [] [.bor 1] (pack hp ⟨_, _, _, _, _, _, _, _⟩ l xs hl) rfl rfl rfl rfl rfl rfl ?_
          rintro v m1 (⟨h, _⟩ | ⟨_, l2, hl2, rfl, rfl⟩)
          · exact absurd (hck.symm.trans h) (by decide)
          have hl2 : isB l2 (sealB (packB ⟨k1, f1, t1, i1, l1, p1, s1, b0, xs⟩)) := hl2
          cbv
          refine br_t (by rw [hI]; rfl) ?_
          cbv
          refine .go [] [] [.bor 1] (seal_ hp _ _ hBe (by omega)) rfl rfl rfl rfl rfl rfl ?_
          rintro v m1 ⟨l3, hl3, rfl, rfl⟩
          cbv
          refine .go [] [] [.bor 1, .bor 1] (same2 hp l2 l3 _ _ hl2 hl3 (by rw [sealB_len]; omega)) rfl rfl rfl rfl rfl rfl ?_
          rintro v m1 ⟨q, hq, rfl, rfl⟩
          have hq : q = true := by rw [hq]; simp
          cbv
          refine br_t hq ?_
          cbv
          refine .go [] [] [] (wakes hp) rfl rfl rfl rfl rfl rfl ?_
          rintro v m1 ⟨rfl, rfl⟩
          cbv
          exact hP _ _ [] [] _ _ .nil rfl rfl rfl rfl rfl ⟨_, rfl, rfl⟩
    · as_aux_lemma =>
        cbv
        refine .br (fun g1 => ?_) (fun g1 => ?_)
        · have hj1 : j < xs.length := by
            have : z < c := by simpa [hI, ints, rCmp] using g1
            unfold isN at hz hc
            omega
          obtain ⟨x, hx, hr⟩ := hget j hj1
          have hjl : j < I.len l := by rw [hln]; exact hj1
          cbv
          refine .idx j hz hjl ?_
          cbv
          refine .nth _ hr ?_
          cbv
          refine .loop_next (fun n ts m => ∃ (k : Nat) (u : Int) (B2 : List (List G)) (cl : C) (blk : Blk), n = 8 - k ∧ isW u k ∧ k ≤ 8 ∧ isB B2 (HL ++ (xs.take j).flatMap wordB ++ (wordB x).take k) ∧ (cl = .row 2 1 none ∧ blk = .sym 1 B2) ∧
              ts = fr 118 [(19, .one (.c (.ptr 1 (.lit 0) 9 0))), (21, .one (.c cl)), (23, i64 x), (24, i64 u), (82, .one (.c (.row 0 1 none))), (83, i64 c), (84, i64 z)] ∧ m = [.sym 1 l, .lit 9 [[.g (.int .i64 (.sym k1)), .g (.int .i64 (.sym f1)), .g (.int .i64 (.sym t1)), .g (.int .i64 (.sym i1)), .g (.int .i64 (.sym l1)), .g (.int .i64 (.sym p1)), .g (.int .i64 (.sym s1)), .g (.bool (.sym b0)), .row 0 1 none]], blk])
            8 _ _ [0, 1, 2] [] [19, 21, 23, 24, 82, 83, 84] (by decide) rfl rfl rfl ⟨0, 56, _, _, _, rfl, rfl, by omega, by rw [List.take_zero, List.append_nil]; exact hB, ⟨rfl, rfl⟩, rfl, rfl⟩ ?_
          rintro next2 n2 hnext2 ts m ⟨k, u, B2, cl, blk, hn2, hu, hk, hB2, hcl, rfl, rfl⟩
          obtain ⟨rfl, rfl⟩ := hcl
          cbv
          refine .br (fun g2 => ?_) (fun g2 => ?_)
          · have hk8 : k < 8 := of_decide_eq_true (hdge u k _ hu g2)
            have hu1 := hzw u k hu hk8
            have hB3 := hap _ _ u x k hB2 hu hk8
            have hB3l := hapl _ _ x (k + 1) hB3 (hpre j hj)
            cbv
            refine .nonneg (hznn u k hu hk8) ?_
            cbv
            refine .most (Nat.le_trans (Nat.mul_le_mul_right 1 hB3l) (by decide)) (Nat.le_trans hB3l (by decide)) ?_
            cbv
            exact hnext2 _ _ (8 - (k + 1)) [0, 1, 4] [] [19, 21, 23, 24, 82, 83, 84] _ _ (by omega) (by decide) rfl rfl rfl ⟨k + 1, _, _, _, _, rfl, hu1, hk8, hB3, ⟨rfl, rfl⟩, rfl, rfl⟩
          · have hk8 : k = 8 := by have := of_decide_eq_false (hdge u k _ hu g2); omega
            subst hk8
            have hB4 := hnextB _ j x hx hB2
            cbv
            exact hnext _ _ (xs.length - (j + 1)) [0, 1, 2] [] [19, 21, 82, 83, 84] _ _ (by omega) (by decide) rfl rfl rfl ⟨j + 1, _, c, _, _, _, rfl, hz1, hc, hj1, hB4, .inr ⟨rfl, rfl⟩, rfl, rfl⟩
        · have hj1 : j = xs.length := by
            have : ¬ z < c := by simpa [hI, ints, rCmp] using g1
            unfold isN at hz hc
            omega
          have hBe : isB B (packB ⟨k1, f1, t1, i1, l1, p1, s1, b0, xs⟩) := by
            rw [hj1, List.take_length] at hB
            rw [hPK]
            exact hB
          cbv
          refine .go [] [] [.bor 1] (pack hp ⟨_, _, _, _, _, _, _, _⟩ l xs hl) rfl rfl rfl rfl rfl rfl ?_
          rintro v m1 (⟨h, _⟩ | ⟨_, l2, hl2, rfl, rfl⟩)
          · exact absurd (hck.symm.trans h) (by decide)
          have hl2 : isB l2 (sealB (packB ⟨k1, f1, t1, i1, l1, p1, s1, b0, xs⟩)) := hl2
          cbv
          refine br_t (by rw [hI]; rfl) ?_
          cbv
          refine .go [] [] [.bor 1] (seal_ hp _ _ hBe (by omega)) rfl rfl rfl rfl rfl rfl ?_
          rintro v m1 ⟨l3, hl3, rfl, rfl⟩
          cbv
          refine .go [] [] [.bor 1, .bor 1] (same2 hp l2 l3 _ _ hl2 hl3 (by rw [sealB_len]; omega)) rfl rfl rfl rfl rfl rfl ?_
          rintro v m1 ⟨q, hq, rfl, rfl⟩
          have hq : q = true := by rw [hq]; simp
          cbv
          refine br_t hq ?_
          cbv
          refine .go [] [] [] (wakes hp) rfl rfl rfl rfl rfl rfl ?_
          rintro v m1 ⟨rfl, rfl⟩
          cbv
          exact hP _ _ [] [] _ _ .nil rfl rfl rfl rfl rfl ⟨_, rfl, rfl⟩
  · cbv
    have hB0 := hH 0 (by rw [show b0 = false from g0]; rfl)
    refine .loop_next (fun n ts m => ∃ (j : Nat) (z c : Int) (B : List (List G)) (cl : C) (blk : Blk), n = xs.length - j ∧ isN z j ∧ isN c xs.length ∧ j ≤ xs.length ∧ isB B (HL ++ (xs.take j).flatMap wordB) ∧
        ((cl = .row 2 1 (some (.lit 10)) ∧ blk = .lit 1 [[.g (.int .u8 (.sym (I.conv .u8 k1)))], [.g (.int .u8 (.sym (I.conv .u8 f1)))], [.g (.int .u8 (.sym (I.conv .u8 t1)))], [.g (.int .u8 (.sym (I.conv .u8 (I.bin .quo .i64 i1 256))))], [.g (.int .u8 (.sym (I.conv .u8 (I.bin .rem .i64 i1 256))))], [.g (.int .u8 (.sym (I.conv .u8 l1)))], [.g (.int .u8 (.sym (I.conv .u8 (I.bin .add .i64 p1 1))))], [.g (.int .u8 (.sym (I.conv .u8 s1)))], [.g (.int .u8 (.sym 0))], [.g (.int .u8 (.sym (I.conv .u8 (I.ofNat (I.len l)))))]] ∧ B = [[.int .u8 (.sym (I.conv .u8 k1))], [.int .u8 (.sym (I.conv .u8 f1))], [.int .u8 (.sym (I.conv .u8 t1))], [.int .u8 (.sym (I.conv .u8 (I.bin .quo .i64 i1 256)))], [.int .u8 (.sym (I.conv .u8 (I.bin .rem .i64 i1 256)))], [.int .u8 (.sym (I.conv .u8 l1))], [.int .u8 (.sym (I.conv .u8 (I.bin .add .i64 p1 1)))], [.int .u8 (.sym (I.conv .u8 s1))], [.int .u8 (.sym 0)], [.int .u8 (.sym (I.conv .u8 (I.ofNat (I.len l))))]]) ∨ (cl = .row 2 1 none ∧ blk = .sym 1 B)) ∧
        ts = fr 118 [(19, .one (.c (.ptr 1 (.lit 0) 9 0))), (21, .one (.c cl)), (82, .one (.c (.row 0 1 none))), (83, i64 c), (84, i64 z)] ∧ m = [.sym 1 l, .lit 9 [[.g (.int .i64 (.sym k1)), .g (.int .i64 (.sym f1)), .g (.int .i64 (.sym t1)), .g (.int .i64 (.sym i1)), .g (.int .i64 (.sym l1)), .g (.int .i64 (.sym p1)), .g (.int .i64 (.sym s1)), .g (.bool (.sym b0)), .row 0 1 none]], blk])
      xs.length _ _ [0, 1, 2] [] [19, 21, 82, 83, 84] (by decide) rfl rfl (by rw [← hk1, ← hp1]; rfl) ⟨0, 0, I.ofNat (I.len l), _, _, _, rfl, rfl, by rw [hln, hI]; rfl, Nat.zero_le _, by rw [List.take_zero, List.flatMap_nil, List.append_nil]; exact hB0, .inl ⟨rfl, by rw [← hk1, ← hp1]; rfl, rfl⟩, rfl, rfl⟩ ?_
    rintro next n hnext ts m ⟨j, z, c, B, cl, blk, hn, hz, hc, hj, hB, hcl, rfl, rfl⟩
    have hz1 := hz1' z j (by omega) hz
    rcases hcl with ⟨rfl, rfl, rfl⟩ | ⟨rfl, rfl⟩
    · as_aux_lemma =>
        cbv
        refine .br (fun g1 => ?_) (fun g1 => ?_)
        · have hj1 : j < xs.length := by
            have : z < c := by simpa [hI, ints, rCmp] using g1
            unfold isN at hz hc
            omega
          obtain ⟨x, hx, hr⟩ := hget j hj1
          have hjl : j < I.len l := by rw [hln]; exact hj1
          cbv
          refine .idx j hz hjl ?_
          cbv
          refine .nth _ hr ?_
          cbv
          refine .loop_next (fun n ts m => ∃ (k : Nat) (u : Int) (B2 : List (List G)) (cl : C) (blk : Blk), n = 8 - k ∧ isW u k ∧ k ≤ 8 ∧ isB B2 (HL ++ (xs.take j).flatMap wordB ++ (wordB x).take k) ∧ ((cl = .row 2 1 (some (.lit 10)) ∧ blk = .lit 1 [[.g (.int .u8 (.sym (I.conv .u8 k1)))], [.g (.int .u8 (.sym (I.conv .u8 f1)))], [.g (.int .u8 (.sym (I.conv .u8 t1)))], [.g (.int .u8 (.sym (I.conv .u8 (I.bin .quo .i64 i1 256))))], [.g (.int .u8 (.sym (I.conv .u8 (I.bin .rem .i64 i1 256))))], [.g (.int .u8 (.sym (I.conv .u8 l1)))], [.g (.int .u8 (.sym (I.conv .u8 (I.bin .add .i64 p1 1))))], [.g (.int .u8 (.sym (I.conv .u8 s1)))], [.g (.int .u8 (.sym 0))], [.g (.int .u8 (.sym (I.conv .u8 (I.ofNat (I.len l)))))]] ∧ B2 = [[.int .u8 (.sym (I.conv .u8 k1))], [.int .u8 (.sym (I.conv .u8 f1))], [.int .u8 (.sym (I.conv .u8 t1))], [.int .u8 (.sym (I.conv .u8 (I.bin .quo .i64 i1 256)))], [.int .u8 (.sym (I.conv .u8 (I.bin .rem .i64 i1 256)))], [.int .u8 (.sym (I.conv .u8 l1))], [.int .u8 (.sym (I.conv .u8 (I.bin .add .i64 p1 1)))], [.int .u8 (.sym (I.conv .u8 s1))], [.int .u8 (.sym 0)], [.int .u8 (.sym (I.conv .u8 (I.ofNat (I.len l))))]]) ∨ (cl = .row 2 1 none ∧ blk = .sym 1 B2)) ∧
              ts = fr 118 [(19, .one (.c (.ptr 1 (.lit 0) 9 0))), (21, .one (.c cl)), (23, i64 x), (24, i64 u), (82, .one (.c (.row 0 1 none))), (83, i64 c), (84, i64 z)] ∧ m = [.sym 1 l, .lit 9 [[.g (.int .i64 (.sym k1)), .g (.int .i64 (.sym f1)), .g (.int .i64 (.sym t1)), .g (.int .i64 (.sym i1)), .g (.int .i64 (.sym l1)), .g (.int .i64 (.sym p1)), .g (.int .i64 (.sym s1)), .g (.bool (.sym b0)), .row 0 1 none]], blk])
            8 _ _ [0, 1, 2] [] [19, 21, 23, 24, 82, 83, 84] (by decide) rfl rfl rfl ⟨0, 56, _, _, _, rfl, rfl, by omega, by rw [List.take_zero, List.append_nil]; exact hB, .inl ⟨rfl, rfl, rfl⟩, rfl, rfl⟩ ?_
          rintro next2 n2 hnext2 ts m ⟨k, u, B2, cl, blk, hn2, hu, hk, hB2, hcl, rfl, rfl⟩
          rcases hcl with ⟨rfl, rfl, rfl⟩ | ⟨rfl, rfl⟩
          · cbv
            refine .br (fun g2 => ?_) (fun g2 => ?_)
            · have hk8 : k < 8 := of_decide_eq_true (hdge u k _ hu g2)
              have hu1 := hzw u k hu hk8
              have hB3 := hap _ _ u x k hB2 hu hk8
              have hB3l := hapl _ _ x (k + 1) hB3 (hpre j hj)
              cbv
              refine .nonneg (hznn u k hu hk8) ?_
              cbv
              refine .most (Nat.le_trans (Nat.mul_le_mul_right 1 hB3l) (by decide)) (Nat.le_trans hB3l (by decide)) ?_
              cbv
              exact hnext2 _ _ (8 - (k + 1)) [0, 1, 4] [] [19, 21, 23, 24, 82, 83, 84] _ _ (by omega) (by decide) rfl rfl rfl ⟨k + 1, _, _, _, _, rfl, hu1, hk8, hB3, .inr ⟨rfl, rfl⟩, rfl, rfl⟩
            · have hk8 : ¬ k < 8 := of_decide_eq_false (hdge u k _ hu g2)
              exfalso
              have h1 := hB2.len
              rw [List.length_append, List.length_append, hHl, List.length_take] at h1
              have h8 : (wordB x).length = 8 := rfl
              have h10 : ([[.int .u8 (.sym (I.conv .u8 k1))], [.int .u8 (.sym (I.conv .u8 f1))], [.int .u8 (.sym (I.conv .u8 t1))], [.int .u8 (.sym (I.conv .u8 (I.bin .quo .i64 i1 256)))], [.int .u8 (.sym (I.conv .u8 (I.bin .rem .i64 i1 256)))], [.int .u8 (.sym (I.conv .u8 l1))], [.int .u8 (.sym (I.conv .u8 (I.bin .add .i64 p1 1)))], [.int .u8 (.sym (I.conv .u8 s1))], [.int .u8 (.sym 0)], [.int .u8 (.sym (I.conv .u8 (I.ofNat (I.len l))))]] : List (List G)).length = 10 := rfl
              omega
          · cbv
            refine .br (fun g2 => ?_) (fun g2 => ?_)
            · have hk8 : k < 8 := of_decide_eq_true (hdge u k _ hu g2)
              have hu1 := hzw u k hu hk8
              have hB3 := hap _ _ u x k hB2 hu hk8
              have hB3l := hapl _ _ x (k + 1) hB3 (hpre j hj)
              cbv
              refine .nonneg (hznn u k hu hk8) ?_
              cbv
              refine .most (Nat.le_trans (Nat.mul_le_mul_right 1 hB3l) (by decide)) (Nat.le_trans hB3l (by decide)) ?_
              cbv
              exact hnext2 _ _ (8 - (k + 1)) [0, 1, 4] [] [19, 21, 23, 24, 82, 83, 84] _ _ (by omega) (by decide) rfl rfl rfl ⟨k + 1, _, _, _, _, rfl, hu1, hk8, hB3, .inr ⟨rfl, rfl⟩, rfl, rfl⟩
            · have hk8 : k = 8 := by have := of_decide_eq_false (hdge u k _ hu g2); omega
              subst hk8
              have hB4 := hnextB _ j x hx hB2
              cbv
              exact hnext _ _ (xs.length - (j + 1)) [0, 1, 2] [] [19, 21, 82, 83, 84] _ _ (by omega) (by decide) rfl rfl rfl ⟨j + 1, _, c, _, _, _, rfl, hz1, hc, hj1, hB4, .inr ⟨rfl, rfl⟩, rfl, rfl⟩
        · have hj1 : j = xs.length := by
            have : ¬ z < c := by simpa [hI, ints, rCmp] using g1
            unfold isN at hz hc
            omega
          have hBe : isB [[.int .u8 (.sym (I.conv .u8 k1))], [.int .u8 (.sym (I.conv .u8 f1))], [.int .u8 (.sym (I.conv .u8 t1))], [.int .u8 (.sym (I.conv .u8 (I.bin .quo .i64 i1 256)))], [.int .u8 (.sym (I.conv .u8 (I.bin .rem .i64 i1 256)))], [.int .u8 (.sym (I.conv .u8 l1))], [.int .u8 (.sym (I.conv .u8 (I.bin .add .i64 p1 1)))], [.int .u8 (.sym (I.conv .u8 s1))], [.int .u8 (.sym 0)], [.int .u8 (.sym (I.conv .u8 (I.ofNat (I.len l))))]] (packB ⟨k1, f1, t1, i1, l1, p1, s1, b0, xs⟩) := by
            rw [hj1, List.take_length] at hB
            rw [hPK]
            exact hB
          cbv
          refine .go [] [] [.bor 1] (pack hp ⟨_, _, _, _, _, _, _, _⟩ l xs hl) rfl rfl rfl rfl rfl rfl ?_
          rintro v m1 (⟨h, _⟩ | ⟨_, l2, hl2, rfl, rfl⟩)
          · exact absurd (hck.symm.trans h) (by decide)
          have hl2 : isB l2 (sealB (packB ⟨k1, f1, t1, i1, l1, p1, s1, b0, xs⟩)) := hl2
          cbv
          refine br_t (by rw [hI]; rfl) ?_
          cbv
          refine .go [] [] [.bor 1] (seal_ hp _ _ hBe (by omega)) rfl rfl rfl rfl rfl rfl ?_
          rintro v m1 ⟨l3, hl3, rfl, rfl⟩
          cbv
          refine .go [] [] [.bor 1, .bor 1] (same2 hp l2 l3 _ _ hl2 hl3 (by rw [sealB_len]; omega)) rfl rfl rfl rfl rfl rfl ?_
          rintro v m1 ⟨q, hq, rfl, rfl⟩
          have hq : q = true := by rw [hq]; simp
          cbv
          refine br_t hq ?_
          cbv
          refine .go [] [] [] (wakes hp) rfl rfl rfl rfl rfl rfl ?_
          rintro v m1 ⟨rfl, rfl⟩
          cbv
          exact hP _ _ [] [] _ _ .nil rfl rfl rfl rfl rfl ⟨_, rfl, rfl⟩
    · as_aux_lemma =>
        cbv
        refine .br (fun g1 => ?_) (fun g1 => ?_)
        · have hj1 : j < xs.length := by
            have : z < c := by simpa [hI, ints, rCmp] using g1
            unfold isN at hz hc
            omega
          obtain ⟨x, hx, hr⟩ := hget j hj1
          have hjl : j < I.len l := by rw [hln]; exact hj1
          cbv
          refine .idx j hz hjl ?_
          cbv
          refine .nth _ hr ?_
          cbv
          refine .loop_next (fun n ts m => ∃ (k : Nat) (u : Int) (B2 : List (List G)) (cl : C) (blk : Blk), n = 8 - k ∧ isW u k ∧ k ≤ 8 ∧ isB B2 (HL ++ (xs.take j).flatMap wordB ++ (wordB x).take k) ∧ (cl = .row 2 1 none ∧ blk = .sym 1 B2) ∧
              ts = fr 118 [(19, .one (.c (.ptr 1 (.lit 0) 9 0))), (21, .one (.c cl)), (23, i64 x), (24, i64 u), (82, .one (.c (.row 0 1 none))), (83, i64 c), (84, i64 z)] ∧ m = [.sym 1 l, .lit 9 [[.g (.int .i64 (.sym k1)), .g (.int .i64 (.sym f1)), .g (.int .i64 (.sym t1)), .g (.int .i64 (.sym i1)), .g (.int .i64 (.sym l1)), .g (.int .i64 (.sym p1)), .g (.int .i64 (.sym s1)), .g (.bool (.sym b0)), .row 0 1 none]], blk])
            8 _ _ [0, 1, 2] [] [19, 21, 23, 24, 82, 83, 84] (by decide) rfl rfl rfl ⟨0, 56, _, _, _, rfl, rfl, by omega, by rw [List.take_zero, List.append_nil]; exact hB, ⟨rfl, rfl⟩, rfl, rfl⟩ ?_
          rintro next2 n2 hnext2 ts m ⟨k, u, B2, cl, blk, hn2, hu, hk, hB2, hcl, rfl, rfl⟩
          obtain ⟨rfl, rfl⟩ := hcl
          cbv
          refine .br (fun g2 => ?_) (fun g2 => ?_)
          · have hk8 : k < 8 := of_decide_eq_true (hdge u k _ hu g2)
            have hu1 := hzw u k hu hk8
            have hB3 := hap _ _ u x k hB2 hu hk8
            have hB3l := hapl _ _ x (k + 1) hB3 (hpre j hj)
            cbv
            refine .nonneg (hznn u k hu hk8) ?_
            cbv
            refine .most (Nat.le_trans (Nat.mul_le_mul_right 1 hB3l) (by decide)) (Nat.le_trans hB3l (by decide)) ?_
            cbv
            exact hnext2 _ _ (8 - (k + 1)) [0, 1, 4] [] [19, 21, 23, 24, 82, 83, 84] _ _ (by omega) (by decide) rfl rfl rfl ⟨k + 1, _, _, _, _, rfl, hu1, hk8, hB3, ⟨rfl, rfl⟩, rfl, rfl⟩
          · have hk8 : k = 8 := by have := of_decide_eq_false (hdge u k _ hu g2); omega
            subst hk8
            have hB4 := hnextB _ j x hx hB2
            cbv
            exact hnext _ _ (xs.length - (j + 1)) [0, 1, 2] [] [19, 21, 82, 83, 84] _ _ (by omega) (by decide) rfl rfl rfl ⟨j + 1, _, c, _, _, _, rfl, hz1, hc, hj1, hB4, .inr ⟨rfl, rfl⟩, rfl, rfl⟩
        · have hj1 : j = xs.length := by
            have : ¬ z < c := by simpa [hI, ints, rCmp] using g1
            unfold isN at hz hc
            omega
          have hBe : isB B (packB ⟨k1, f1, t1, i1, l1, p1, s1, b0, xs⟩) := by
            rw [hj1, List.take_length] at hB
            rw [hPK]
            exact hB
          cbv
          refine .go [] [] [.bor 1] (pack hp ⟨_, _, _, _, _, _, _, _⟩ l xs hl) rfl rfl rfl rfl rfl rfl ?_
          rintro v m1 (⟨h, _⟩ | ⟨_, l2, hl2, rfl, rfl⟩)
          · exact absurd (hck.symm.trans h) (by decide)
          have hl2 : isB l2 (sealB (packB ⟨k1, f1, t1, i1, l1, p1, s1, b0, xs⟩)) := hl2
          cbv
          refine br_t (by rw [hI]; rfl) ?_
          cbv
          refine .go [] [] [.bor 1] (seal_ hp _ _ hBe (by omega)) rfl rfl rfl rfl rfl rfl ?_
          rintro v m1 ⟨l3, hl3, rfl, rfl⟩
          cbv
          refine .go [] [] [.bor 1, .bor 1] (same2 hp l2 l3 _ _ hl2 hl3 (by rw [sealB_len]; omega)) rfl rfl rfl rfl rfl rfl ?_
          rintro v m1 ⟨q, hq, rfl, rfl⟩
          have hq : q = true := by rw [hq]; simp
          cbv
          refine br_t hq ?_
          cbv
          refine .go [] [] [] (wakes hp) rfl rfl rfl rfl rfl rfl ?_
          rintro v m1 ⟨rfl, rfl⟩
          cbv
          exact hP _ _ [] [] _ _ .nil rfl rfl rfl rfl rfl ⟨_, rfl, rfl⟩
end
end Go.Proofs.Ytccfcenhpmdemaa.E
