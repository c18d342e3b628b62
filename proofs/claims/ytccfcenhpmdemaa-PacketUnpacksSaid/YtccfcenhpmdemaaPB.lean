/- Contracts: packets: which may be; their bytes. -/
import Derived.Test.YtccfcenhpmdemaaCC
namespace Go.Proofs.Ytccfcenhpmdemaa.E
open Go
set_option linter.unusedVariables false
set_option maxRecDepth 100000

/-- A packet. -/
structure PK where
  k : Int
  f : Int
  t : Int
  i : Int
  l : Int
  p : Int
  s : Int
  b : Bool
  d : List Int
  deriving DecidableEq
def PK.row (q : PK) (D : List (List G)) : List G := [.int .i64 (.sym q.k), .int .i64 (.sym q.f), .int .i64 (.sym q.t), .int .i64 (.sym q.i), .int .i64 (.sym q.l), .int .i64 (.sym q.p), .int .i64 (.sym q.s), .bool (.sym q.b), .rows 1 D]
/-- A packet that is told, its data in cell c. -/
def PK.told (q : PK) (c : C) : V1 := .agg [.g (.int .i64 (.sym q.k)), .g (.int .i64 (.sym q.f)), .g (.int .i64 (.sym q.t)), .g (.int .i64 (.sym q.i)), .g (.int .i64 (.sym q.l)), .g (.int .i64 (.sym q.p)), .g (.int .i64 (.sym q.s)), .g (.bool (.sym q.b)), c]
def PK.nought : PK := ⟨0, 0, 0, 0, 0, 0, 0, false, []⟩
structure PZ where
  k : Z
  f : Z
  t : Z
  i : Z
  l : Z
  p : Z
  s : Z
  b : BB
def PZ.pk (q : PZ) (d : List Int) : PK := ⟨q.k.val, q.f.val, q.t.val, q.i.val, q.l.val, q.p.val, q.s.val, q.b.val, d⟩
/-- A packet that is handed in, its data lent. -/
def PZ.arg (q : PZ) (D : List (List G)) : V1 := .agg [.g (.int .i64 q.k), .g (.int .i64 q.f), .g (.int .i64 q.t), .g (.int .i64 q.i), .g (.int .i64 q.l), .g (.int .i64 q.p), .g (.int .i64 q.s), .g (.bool q.b), .bor 1 D]
def isP (L : List (List G)) (ps : List PK) : Prop := L = ps.map fun q => q.row (nrow .i64 q.d)
theorem isP.len {L : List (List G)} {ps : List PK} (h : isP L ps) : L.length = ps.length := by rw [h]; simp
theorem isP.get {L : List (List G)} {ps : List PK} (h : isP L ps) {i : Nat} {q : PK} (hq : ps[i]? = some q) : ∃ D, isL .i64 D q.d ∧ L[i]? = some (q.row D) := ⟨nrow .i64 q.d, rfl, by rw [h]; simp [hq]⟩
theorem isP.app {L : List (List G)} {ps : List PK} (h : isP L ps) (q : PK) (D : List (List G)) (hD : isL .i64 D q.d) : isP (L ++ [q.row D]) (ps ++ [q]) := by unfold isP at h ⊢; rw [h, hD]; simp
def belB (n a b : Int) : Bool := decide (a ≤ n) && decide (n < b)
def checkB (q : PK) : Bool := belB q.f 0 6 && belB q.t 0 6 && belB q.i 0 4096 && (belB q.k 1 10 && belB q.l 0 8 && belB q.p (-1) 6) && belB q.s 0 3 && decide (q.d.length ≤ 4)
/-- The byte of a number from the digit n on. -/
def byteAt (v : Int) (n : Nat) : BitVec 8 := BitVec.ofInt 8 (v.fdiv (2 ^ n))
theorem w8_ofInt (x : Int) : w8 (BitVec.ofInt 8 x) = x % 256 := by
  unfold w8
  rw [BitVec.toNat_ofInt]
  have h1 := Int.emod_nonneg x (show (256 : Int) ≠ 0 by decide)
  show ((x % 256).toNat : Int) = _
  omega
theorem byte_code (v : Int) (n : Nat) (h : n ≤ 64) : IntKind.u8.wrap (rBin .shr .i64 v (n : Int)) = w8 (byteAt v n) := by
  show IntKind.u8.wrap (v.fdiv (2 ^ (min ((n : Int)).toNat 64))) = _
  rw [u8w, Int.toNat_natCast, Nat.min_eq_left h]
  exact (w8_ofInt _).symm
theorem byte_conv (v : Int) : IntKind.u8.wrap v = w8 (BitVec.ofInt 8 v) := by rw [u8w, w8_ofInt]
def wordB (v : Int) : List (BitVec 8) := [byteAt v 56, byteAt v 48, byteAt v 40, byteAt v 32, byteAt v 24, byteAt v 16, byteAt v 8, byteAt v 0]
def headB (q : PK) : List (BitVec 8) := [BitVec.ofInt 8 q.k, BitVec.ofInt 8 q.f, BitVec.ofInt 8 q.t, byteAt q.i 8, BitVec.ofInt 8 q.i, BitVec.ofInt 8 q.l, BitVec.ofInt 8 (IntKind.i64.wrap (q.p + 1)), BitVec.ofInt 8 q.s, (if q.b then 1#8 else 0#8), BitVec.ofInt 8 (q.d.length : Int)]
def packB (q : PK) : List (BitVec 8) := headB q ++ q.d.flatMap wordB
def isW (z : Int) (k : Nat) : Prop := z = 56 - 8 * (k : Int)
theorem words_len (d : List Int) : (d.flatMap wordB).length = 8 * d.length := by
  induction d with
  | nil => rfl
  | cons x d ih =>
    rw [List.flatMap_cons, List.length_append, ih]
    show 8 + 8 * d.length = 8 * (d.length + 1)
    omega
theorem packB_len (q : PK) : (packB q).length = 10 + 8 * q.d.length := by
  unfold packB
  rw [List.length_append, words_len]
  rfl
section
variable {P : Program} (hp : P = Try.prog)
include hp
theorem below (n a b : Z) : LValid P 36 [.c (.g (.int .i64 n)), .c (.g (.int .i64 a)), .c (.g (.int .i64 b))] [] (fun v m1 => ∃ t, t = belB n.val a.val b.val ∧ v = boo t ∧ m1 = []) := by
  refine bx (LValid.boo (LValid.sy ?_))
  show LValid P 36 [.c (.g (.int .i64 (.sym n.val))), .c (.g (.int .i64 (.sym a.val))), .c (.g (.int .i64 (.sym b.val)))] [] _
  generalize n.val = n, a.val = a, b.val = b
  obtain ⟨I, hI⟩ := ref
  have hX : ∀ q : Bool, I.cmp .geq n a = q → belB n a b = (q && I.cmp .lss n b) := fun q h => by
    rw [← h, hI]
    unfold belB
    show _ = (decide (n ≥ a) && decide (n < b))
    by_cases h2 : a ≤ n
    · rw [decide_eq_true h2]
    · rw [decide_eq_false h2]
  refine fn_sim hI (mo hp) (cc hp c36) fun Post hP => ?_
  cbv
  refine .br (fun g => ?_) (fun g => ?_)
  · have g := hX _ g
    cbv
    exact hP _ _ [] [] _ _ .nil rfl rfl rfl rfl rfl ⟨_, rfl, g.symm, rfl⟩
  · have g := hX _ g
    cbv
    exact hP _ _ [] [] _ _ .nil rfl rfl rfl rfl rfl ⟨_, rfl, g.symm, rfl⟩
theorem flag (b : BB) : LValid P 32 [.c (.g (.bool b))] [] (fun v m1 => ∃ t, t = w8 (if b.val then 1#8 else 0#8) ∧ v = u8 t ∧ m1 = []) := by
  refine nx (LValid.num (LValid.sy ?_))
  show LValid P 32 [.c (.g (.bool (.sym b.val)))] [] _
  generalize b.val = b
  obtain ⟨I, hI⟩ := ref
  refine fn_sim hI (mo hp) (cc hp c32) fun Post hP => ?_
  cbv
  refine .br (fun g => ?_) (fun g => ?_)
  · have hX : (1 : Int) = w8 (if b then 1#8 else 0#8) := by rw [g]; rfl
    cbv
    exact hP _ _ [] [] _ _ .nil rfl rfl rfl rfl rfl ⟨_, rfl, hX, rfl⟩
  · have hX : (0 : Int) = w8 (if b then 1#8 else 0#8) := by rw [g]; rfl
    cbv
    exact hP _ _ [] [] _ _ .nil rfl rfl rfl rfl rfl ⟨_, rfl, hX, rfl⟩
set_option maxHeartbeats 4000000 in
theorem check (z : PZ) (D : List (List G)) (d : List Int) (hD : isL .i64 D d) : LValid P 16 [z.arg D] [] (fun v m1 => ∃ t, t = (if checkB (z.pk d) then 0 else 1) ∧ v = i64 t ∧ m1 = []) := by
  refine nx (LValid.num (LValid.sy ?_))
  show LValid P 16 [.agg [.g (.int .i64 (.sym z.k.val)), .g (.int .i64 (.sym z.f.val)), .g (.int .i64 (.sym z.t.val)), .g (.int .i64 (.sym z.i.val)), .g (.int .i64 (.sym z.l.val)), .g (.int .i64 (.sym z.p.val)), .g (.int .i64 (.sym z.s.val)), .g (.bool (.sym z.b.val)), .bor 1 D]] [] _
  rw [show z.pk d = ⟨z.k.val, z.f.val, z.t.val, z.i.val, z.l.val, z.p.val, z.s.val, z.b.val, d⟩ from rfl]
  generalize z.k.val = k, z.f.val = f, z.t.val = t, z.i.val = i, z.l.val = l, z.p.val = p, z.s.val = s, z.b.val = b
  obtain ⟨I, hI⟩ := ref
  have hle : I.len D = d.length := by rw [hI]; exact hD.len
  have hlen := hD.len
  refine fn_sim hI (mo hp) (cc hp c16) fun Post hP => ?_
  cbv
  repeat' (first
    | (refine .go [] [] [] (below hp _ _ _) rfl rfl rfl rfl rfl rfl ?_; rintro r m1 ⟨y, hy, rfl, rfl⟩; cbv)
    | (refine .br (fun g => ?_) (fun g => ?_) <;> cbv))
  all_goals refine hP _ _ [] [] _ _ .nil rfl rfl rfl rfl rfl ⟨_, rfl, ?_, rfl⟩
  all_goals
    clear hP hD hle
    subst hI
    simp_all [checkB, Z.val, ints, rCmp]
    try omega
set_option maxHeartbeats 2000000 in
theorem word (v : Z) : LValid P 33 [.c (.g (.int .i64 v))] [] (fun r m1 => ∃ l, isB l (wordB v.val) ∧ r = .one (.c (.row 0 1 none)) ∧ m1 = [.sym 1 l]) := by
  refine LValid.sy ?_
  show LValid P 33 [.c (.g (.int .i64 (.sym v.val)))] [] _
  generalize v.val = v
  obtain ⟨I, hI⟩ := ref
  refine fn_sim hI (mo hp) (cc hp c33) fun Post hP => ?_
  cbv
  refine .own 3 1 rfl ?_
  refine .loop_next (fun n ts m => ∃ (k : Nat) (z : Int) (l : List (List G)), n = 8 - k ∧ isW z k ∧ k ≤ 8 ∧ isB l ((wordB v).take k) ∧
      ts = fr 17 [(0, i64 v), (3, .one (.c (.row 0 1 none))), (4, i64 z)] ∧ m = [.sym 1 l])
    8 _ _ [0] [] [0, 3, 4] (by decide) rfl rfl rfl ⟨0, 56, [], rfl, rfl, by omega, rfl, rfl, rfl⟩ ?_
  rintro next n hnext ts m ⟨k, z, l, hn, hz, hk, hl, rfl, rfl⟩
  have hzv : z = 56 - 8 * (k : Int) := hz
  have dge : ∀ q : Bool, I.cmp .geq z 0 = q → decide (k < 8) = q := fun q h => by
    rw [hI] at h
    rw [← h]
    show _ = decide (z ≥ 0)
    by_cases h2 : k < 8
    · rw [decide_eq_true h2, decide_eq_true (by omega)]
    · rw [decide_eq_false h2, decide_eq_false (by omega)]
  have hz1 : k < 8 → isW (I.bin .sub .i64 z 8) (k + 1) := fun h => by
    unfold isW
    rw [hI, hzv]
    show IntKind.i64.wrap (56 - 8 * (k : Int) - 8) = _
    rw [wrap_in] <;> omega
  have hnn : k < 8 → 0 ≤ z := fun h => by omega
  have hby : k < 8 → I.conv .u8 (I.bin .shr .i64 v z) = w8 (byteAt v (56 - 8 * k)) := fun h => by
    rw [hI, hzv]
    have e : 56 - 8 * (k : Int) = ((56 - 8 * k : Nat) : Int) := by omega
    rw [e]
    exact byte_code v _ (by omega)
  have htk : k < 8 → (wordB v).take (k + 1) = (wordB v).take k ++ [byteAt v (56 - 8 * k)] := fun h => by
    match k, h with
    | 0, _ => rfl
    | 1, _ => rfl
    | 2, _ => rfl
    | 3, _ => rfl
    | 4, _ => rfl
    | 5, _ => rfl
    | 6, _ => rfl
    | 7, _ => rfl
  have hap : k < 8 → isB (I.app l [[.int .u8 (.sym (I.conv .u8 (I.bin .shr .i64 v z)))]]) ((wordB v).take (k + 1)) := fun h => by
    rw [hby h, htk h, hI]
    exact hl.app rfl
  have hapl : k < 8 → I.len (I.app l [[.int .u8 (.sym (I.conv .u8 (I.bin .shr .i64 v z)))]]) ≤ 8 := fun h => by
    have := (hap h).len
    rw [List.length_take] at this
    rw [hI] at this ⊢
    show List.length _ ≤ _
    omega
  clear hzv
  cbv
  refine .br (fun g1 => ?_) (fun g1 => ?_)
  · have hk1 : k < 8 := of_decide_eq_true (dge _ g1)
    replace hz1 := hz1 hk1
    replace hap := hap hk1
    replace hapl := hapl hk1
    cbv
    refine .nonneg (hnn hk1) ?_
    cbv
    refine .most (show I.len (I.app l [[.int .u8 (.sym (I.conv .u8 (I.bin .shr .i64 v z)))]]) * 1 ≤ 140737488355328 from by omega) (show I.len (I.app l [[.int .u8 (.sym (I.conv .u8 (I.bin .shr .i64 v z)))]]) ≤ 140737488355328 from by omega) ?_
    cbv
    exact hnext _ _ (8 - (k + 1)) [2] [] [0, 3, 4] _ _ (by omega) (by decide) rfl rfl rfl ⟨k + 1, _, _, rfl, hz1, hk1, hap, rfl, rfl⟩
  · have hk1 : k = 8 := by have := of_decide_eq_false (dge _ g1); omega
    have hfin : isB l (wordB v) := by rw [hk1] at hl; exact hl
    cbv
    exact hP _ _ [0] [] _ _ (by decide) rfl rfl rfl rfl rfl ⟨_, hfin, rfl, rfl⟩
set_option maxHeartbeats 4000000 in
theorem pack (z : PZ) (D : List (List G)) (d : List Int) (hD : isL .i64 D d) : LValid P 12 [z.arg D] []
    (fun v m1 => (checkB (z.pk d) = false ∧ v = .tup [.c (.g .nil), gi .i64 1] ∧ m1 = []) ∨ (checkB (z.pk d) = true ∧ ∃ l, isB l (sealB (packB (z.pk d))) ∧ v = .tup [.c (.row 0 1 none), gi .i64 0] ∧ m1 = [.sym 1 l])) := by
  refine LValid.sy ?_
  show LValid P 12 [.agg [.g (.int .i64 (.sym z.k.val)), .g (.int .i64 (.sym z.f.val)), .g (.int .i64 (.sym z.t.val)), .g (.int .i64 (.sym z.i.val)), .g (.int .i64 (.sym z.l.val)), .g (.int .i64 (.sym z.p.val)), .g (.int .i64 (.sym z.s.val)), .g (.bool (.sym z.b.val)), .bor 1 D]] [] _
  rw [show z.pk d = ⟨z.k.val, z.f.val, z.t.val, z.i.val, z.l.val, z.p.val, z.s.val, z.b.val, d⟩ from rfl]
  generalize z.k.val = k, z.f.val = f, z.t.val = t, z.i.val = i, z.l.val = l, z.p.val = p, z.s.val = s, z.b.val = b
  refine LValid.syv (R := fun v m1 => (checkB ⟨k, f, t, i, l, p, s, b, d⟩ = false ∧ v = .tup [.c (.g .nil), gi .i64 1] ∧ m1 = []) ∨ (checkB ⟨k, f, t, i, l, p, s, b, d⟩ = true ∧ ∃ L, isB L (sealB (packB ⟨k, f, t, i, l, p, s, b, d⟩)) ∧ v = .tup [.c (.row 0 1 none), .c (.g (.int .i64 (.lit 0)))] ∧ m1 = [.sym 1 L])) ?_
    (fun v m1 h => h.imp (fun ⟨h1, h2, h3⟩ => ⟨h1, by rw [h2]; rfl, h3⟩) (fun ⟨h1, L, h2, h3, h4⟩ => ⟨h1, L, h2, by rw [h3]; rfl, h4⟩))
  obtain ⟨I, hI⟩ := ref
  have hle : I.len D = d.length := by rw [hI]; exact hD.len
  refine fn_sim hI (mo hp) (cc hp c12) fun Post hP => ?_
  cbv
  refine .go [] [] [] (check hp ⟨.sym k, .sym f, .sym t, .sym i, .sym l, .sym p, .sym s, .sym b⟩ D d hD) rfl rfl rfl rfl rfl rfl ?_
  rintro v m1 ⟨e, he, rfl, rfl⟩
  have he : e = if checkB ⟨k, f, t, i, l, p, s, b, d⟩ then 0 else 1 := he
  cases hc : checkB ⟨k, f, t, i, l, p, s, b, d⟩ with
  | false =>
    rw [hc] at he
    have he : e = 1 := he
    subst he
    cbv
    refine br_t (by rw [hI]; rfl) ?_
    cbv
    exact hP _ _ [] [] _ _ .nil rfl rfl rfl rfl rfl (.inl ⟨hc, rfl, rfl⟩)
  | true =>
    rw [hc] at he
    have he : e = 0 := he
    have hdl : d.length ≤ 4 := by
      unfold checkB at hc
      simp only [Bool.and_eq_true, decide_eq_true_eq] at hc
      exact hc.2
    have hck := hc
    clear hc
    subst he
    cbv
    refine br_f (by rw [hI]; rfl) ?_
    cbv
    refine .drawn [] ?_
    cbv
    refine .go [] [] [] (flag hp (.sym b)) rfl rfl rfl rfl rfl rfl ?_
    rintro r m1 ⟨fb, hfb, rfl, rfl⟩
    have hfb : fb = w8 (if b then 1#8 else 0#8) := hfb
    have q1 : I.conv .u8 k = w8 (BitVec.ofInt 8 k) := by rw [hI]; exact byte_conv k
    have q2 : I.conv .u8 f = w8 (BitVec.ofInt 8 f) := by rw [hI]; exact byte_conv f
    have q3 : I.conv .u8 t = w8 (BitVec.ofInt 8 t) := by rw [hI]; exact byte_conv t
    have q4 : I.conv .u8 (I.bin .shr .i64 i 8) = w8 (byteAt i 8) := by rw [hI]; exact byte_code i 8 (by omega)
    have q5 : I.conv .u8 i = w8 (BitVec.ofInt 8 i) := by rw [hI]; exact byte_conv i
    have q6 : I.conv .u8 l = w8 (BitVec.ofInt 8 l) := by rw [hI]; exact byte_conv l
    have q7 : I.conv .u8 (I.bin .add .i64 p 1) = w8 (BitVec.ofInt 8 (IntKind.i64.wrap (p + 1))) := by rw [hI]; exact byte_conv _
    have q8 : I.conv .u8 s = w8 (BitVec.ofInt 8 s) := by rw [hI]; exact byte_conv s
    have q9 : I.conv .u8 (I.ofNat (I.len D)) = w8 (BitVec.ofInt 8 (d.length : Int)) := by rw [hle, hI]; exact byte_conv _
    have hH : isB [[.int .u8 (.sym (I.conv .u8 k))], [.int .u8 (.sym (I.conv .u8 f))], [.int .u8 (.sym (I.conv .u8 t))], [.int .u8 (.sym (I.conv .u8 (I.bin .shr .i64 i 8)))], [.int .u8 (.sym (I.conv .u8 i))], [.int .u8 (.sym (I.conv .u8 l))], [.int .u8 (.sym (I.conv .u8 (I.bin .add .i64 p 1)))], [.int .u8 (.sym (I.conv .u8 s))], [.int .u8 (.sym fb)], [.int .u8 (.sym (I.conv .u8 (I.ofNat (I.len D))))]] (headB ⟨k, f, t, i, l, p, s, b, d⟩) := by
      rw [q1, q2, q3, q4, q5, q6, q7, q8, q9, hfb]
      rfl
    obtain ⟨HL, hHL⟩ : ∃ HL, HL = headB ⟨k, f, t, i, l, p, s, b, d⟩ := ⟨_, rfl⟩
    have hHl : HL.length = 10 := by rw [hHL]; rfl
    have hPK : packB ⟨k, f, t, i, l, p, s, b, d⟩ = HL ++ d.flatMap wordB := by rw [hHL]; rfl
    rw [← hHL] at hH
    clear q1 q2 q3 q4 q5 q6 q7 q8 q9 hHL hfb
    cbv
    refine .loop_next (fun n ts m => ∃ (j : Nat) (z c : Int) (B : List (List G)) (cl : C) (blk : Blk), n = d.length - j ∧ isN z j ∧ isN c d.length ∧ j ≤ d.length ∧ isB B (HL ++ (d.take j).flatMap wordB) ∧
        ((cl = .row 0 1 (some (.lit 10)) ∧ blk = .lit 1 [[.g (.int .u8 (.sym (I.conv .u8 k)))], [.g (.int .u8 (.sym (I.conv .u8 f)))], [.g (.int .u8 (.sym (I.conv .u8 t)))], [.g (.int .u8 (.sym (I.conv .u8 (I.bin .shr .i64 i 8))))], [.g (.int .u8 (.sym (I.conv .u8 i)))], [.g (.int .u8 (.sym (I.conv .u8 l)))], [.g (.int .u8 (.sym (I.conv .u8 (I.bin .add .i64 p 1))))], [.g (.int .u8 (.sym (I.conv .u8 s)))], [.g (.int .u8 (.sym fb))], [.g (.int .u8 (.sym (I.conv .u8 (I.ofNat (I.len D)))))]] ∧ B = [[.int .u8 (.sym (I.conv .u8 k))], [.int .u8 (.sym (I.conv .u8 f))], [.int .u8 (.sym (I.conv .u8 t))], [.int .u8 (.sym (I.conv .u8 (I.bin .shr .i64 i 8)))], [.int .u8 (.sym (I.conv .u8 i))], [.int .u8 (.sym (I.conv .u8 l))], [.int .u8 (.sym (I.conv .u8 (I.bin .add .i64 p 1)))], [.int .u8 (.sym (I.conv .u8 s))], [.int .u8 (.sym fb)], [.int .u8 (.sym (I.conv .u8 (I.ofNat (I.len D))))]]) ∨ (cl = .row 0 1 none ∧ blk = .sym 1 B)) ∧
        ts = fr 61 [(5, .one (.c cl)), (48, .one (.c (.bor 1 D))), (49, i64 c), (50, i64 z)] ∧ m = [blk])
      d.length _ _ [1] [] [5, 48, 49, 50] (by decide) rfl rfl rfl ⟨0, 0, I.ofNat (I.len D), _, _, _, rfl, rfl, by rw [hle, hI]; rfl, Nat.zero_le _, by rw [List.take_zero, List.flatMap_nil, List.append_nil]; exact hH, .inl ⟨rfl, rfl, rfl⟩, rfl, rfl⟩ ?_
    rintro next n hnext ts m ⟨j, z, c, B, cl, blk, hn, hz, hc, hj, hB, hcl, rfl, rfl⟩
    have hz1 : isN (I.bin .add .i64 z 1) (j + 1) := by unfold isN at hz ⊢; rw [hI]; simp only [ints, rBin]; rw [wrap_in] <;> omega
    have hjl : j < d.length → j < I.len D := fun h => by rw [hle]; exact h
    have hget : j < d.length → ∃ x, d[j]? = some x ∧ D[j]? = some [.int .i64 (.sym x)] := fun h => ⟨_, List.getElem?_eq_getElem h, by rw [hD.get, List.getElem?_eq_getElem h]; rfl⟩
    have hBl : B.length ≤ 50 := by
      rw [hB.len, List.length_append, hHl, words_len, List.length_take]
      omega
    have hap : ∀ (x : Int) (w : List (List G)), d[j]? = some x → isB w (wordB x) → isB (I.app B w) (HL ++ (d.take (j + 1)).flatMap wordB) := fun x w hx hw => by
      rw [hI, List.take_add_one, hx, List.flatMap_append]
      have := hB.app hw
      rw [List.append_assoc] at this
      show isB (B ++ w) _
      simpa using this
    have hapl : ∀ (x : Int) (w : List (List G)), isB w (wordB x) → I.len (I.app B w) ≤ 58 := fun x w hw => by
      have h8 : w.length = 8 := hw.len
      rw [hI]
      show (B ++ w).length ≤ _
      rw [List.length_append]
      omega
    have hseal : j = d.length → isB B (packB ⟨k, f, t, i, l, p, s, b, d⟩) := fun h => by
      rw [h, List.take_length] at hB
      rw [hPK]
      exact hB
    have hpl : (packB ⟨k, f, t, i, l, p, s, b, d⟩).length ≤ 140737488351250 := by
      rw [packB_len]
      show 10 + 8 * d.length ≤ _
      omega
    rcases hcl with ⟨rfl, rfl, rfl⟩ | ⟨rfl, rfl⟩
    · cbv
      refine .br (fun g1 => ?_) (fun g1 => ?_)
      · have hj1 : j < d.length := by
          have : z < c := by simpa [hI, ints, rCmp] using g1
          unfold isN at hz hc
          omega
        obtain ⟨x, hx, hr⟩ := hget hj1
        cbv
        refine .idx j hz (hjl hj1) (.nth _ hr ?_)
        cbv
        refine .go [] [] [] (word hp (.sym x)) rfl rfl rfl rfl rfl rfl ?_
        rintro r m1 ⟨w, hw, rfl, rfl⟩
        have h1 := hap x w hx hw
        have h2 := hapl x w hw
        cbv
        refine .most (Nat.le_trans (Nat.mul_le_mul_right 1 h2) (by decide)) (Nat.le_trans h2 (by decide)) ?_
        cbv
        exact hnext _ _ (d.length - (j + 1)) [2] [] [5, 48, 49, 50] _ _ (by omega) (by decide) rfl rfl rfl ⟨j + 1, _, c, _, _, _, rfl, hz1, hc, hj1, h1, .inr ⟨rfl, rfl⟩, rfl, rfl⟩
      · have hj1 : j = d.length := by
          have : ¬ z < c := by simpa [hI, ints, rCmp] using g1
          unfold isN at hz hc
          omega
        cbv
        refine .go [] [] [.bor 1] (seal_ hp _ _ (hseal hj1) hpl) rfl rfl rfl rfl rfl rfl ?_
        rintro r m1 ⟨l', hl', rfl, rfl⟩
        cbv
        exact hP _ _ [1] [] _ _ (by decide) rfl rfl rfl rfl rfl (.inr ⟨hck, l', hl', rfl, rfl⟩)
    · cbv
      refine .br (fun g1 => ?_) (fun g1 => ?_)
      · have hj1 : j < d.length := by
          have : z < c := by simpa [hI, ints, rCmp] using g1
          unfold isN at hz hc
          omega
        obtain ⟨x, hx, hr⟩ := hget hj1
        cbv
        refine .idx j hz (hjl hj1) (.nth _ hr ?_)
        cbv
        refine .go [] [] [] (word hp (.sym x)) rfl rfl rfl rfl rfl rfl ?_
        rintro r m1 ⟨w, hw, rfl, rfl⟩
        have h1 := hap x w hx hw
        have h2 := hapl x w hw
        cbv
        refine .most (show I.len (I.app B w) * 1 ≤ 140737488355328 from by omega) (show I.len (I.app B w) ≤ 140737488355328 from by omega) ?_
        cbv
        exact hnext _ _ (d.length - (j + 1)) [2] [] [5, 48, 49, 50] _ _ (by omega) (by decide) rfl rfl rfl ⟨j + 1, _, c, _, _, _, rfl, hz1, hc, hj1, h1, .inr ⟨rfl, rfl⟩, rfl, rfl⟩
      · have hj1 : j = d.length := by
          have : ¬ z < c := by simpa [hI, ints, rCmp] using g1
          unfold isN at hz hc
          omega
        cbv
        refine .go [] [] [.bor 1] (seal_ hp _ _ (hseal hj1) hpl) rfl rfl rfl rfl rfl rfl ?_
        rintro r m1 ⟨l', hl', rfl, rfl⟩
        cbv
        exact hP _ _ [1] [] _ _ (by decide) rfl rfl rfl rfl rfl (.inr ⟨hck, l', hl', rfl, rfl⟩)
end
end Go.Proofs.Ytccfcenhpmdemaa.E
