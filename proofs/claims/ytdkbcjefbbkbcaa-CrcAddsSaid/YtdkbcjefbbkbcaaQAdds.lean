/- CrcAdds. -/
import Derived.Test.YtdkbcjefbbkbcaaQFinds
namespace Go.Proofs.Ytdkbcjefbbkbcaa.E
open Go
set_option linter.unusedVariables false
set_option maxRecDepth 100000

theorem adds_math (p : List (BitVec 8 × BitVec 8)) : crcSum (p.map (·.1)) ^^^ crcSum (p.map (·.2)) = crcSum (p.map fun q => q.1 ^^^ q.2) ^^^ crcSum (List.replicate p.length 0#8) := by
  have h1 := sumFrom_xor p 0xffff#16 0#16
  have h2 := sumFrom_xor (p.map fun q => (q.2, q.2)) 0#16 0xffff#16
  rw [BitVec.xor_zero] at h1
  rw [BitVec.zero_xor] at h2
  simp only [List.map_map, Function.comp_def, BitVec.xor_self] at h2
  have e : ∀ p : List (BitVec 8 × BitVec 8), List.map (fun _ => (0#8 : BitVec 8)) p = List.replicate p.length 0#8 := fun p => by
    induction p with
    | nil => rfl
    | cons a p ih => exact congrArg (0#8 :: ·) ih
  rw [e] at h2
  unfold crcSum
  rw [h1, h2]
  simp [BitVec.xor_assoc, xself]
section
variable {P : Program} (hp : P = Try.prog)
include hp
set_option maxHeartbeats 4000000 in
theorem adds (A0 B0 : List (List G)) (h0 : ∃ us, isB A0 us) (g0 : ∃ us, isB B0 us) : LValid P 4 [.c (.g (.rows 1 A0)), .c (.g (.rows 1 B0))] [] (fun v _ => ∃ b : BB, b.val = true ∧ v = .one (.c (.g (.bool b)))) := by
  obtain ⟨us0, h0⟩ := h0
  obtain ⟨ws0, g0⟩ := g0
  obtain ⟨I, hI⟩ := ref
  have hA : I.len A0 = us0.length := by rw [hI]; exact h0.len
  have hBl : I.len B0 = ws0.length := by rw [hI]; exact g0.len
  obtain ⟨y, hyy⟩ : ∃ y, y = I.mn (I.mn (I.ofNat (I.len A0)) (I.ofNat (I.len B0))) 60 := ⟨_, rfl⟩
  obtain ⟨n, hn0⟩ : ∃ n, n = min (min us0.length ws0.length) 60 := ⟨_, rfl⟩
  have hy : y = (n : Int) := by
    rw [hyy, hA, hBl, hI, hn0]
    show (if (60 : Int) < (if (ws0.length : Int) < (us0.length : Int) then (ws0.length : Int) else (us0.length : Int)) then (60 : Int) else (if (ws0.length : Int) < (us0.length : Int) then (ws0.length : Int) else (us0.length : Int))) = _
    split <;> split <;> omega
  have hn1 : n ≤ us0.length := by omega
  have hn2 : n ≤ ws0.length := by omega
  have hn3 : n ≤ 60 := by omega
  clear hn0
  have hn : I.mn (I.mn (I.ofNat (I.len A0)) (I.ofNat (I.len B0))) 60 = (n : Int) := by rw [← hyy]; exact hy
  have hnA : n ≤ I.len A0 := by rw [hA]; exact hn1
  have hnB : n ≤ I.len B0 := by rw [hBl]; exact hn2
  have hAE : isB (I.ext A0 0 n) (us0.take n) := by rw [hI]; exact h0.take n
  have hBE : isB (I.ext B0 0 n) (ws0.take n) := by rw [hI]; exact g0.take n
  obtain ⟨cs, hcs⟩ : ∃ cs, cs = ((us0.take n).zip (ws0.take n)).map fun q => q.1 ^^^ q.2 := ⟨_, rfl⟩
  obtain ⟨zs, hzs⟩ : ∃ zs, zs = List.replicate n 0#8 := ⟨_, rfl⟩
  have hua : (us0.take n).length = n := by rw [List.length_take]; omega
  have hwa : (ws0.take n).length = n := by rw [List.length_take]; omega
  have hcl : cs.length = n := by rw [hcs]; simp [hua, hwa]
  have hzl : zs.length = n := by rw [hzs]; simp
  obtain ⟨Z0, hZ0⟩ : ∃ Z, Z = I.rep n [.int .u8 (.sym 0)] := ⟨_, rfl⟩
  have hZ : isB Z0 zs := by rw [hZ0, hI, hzs]; unfold isB nrow; rw [List.map_replicate, List.map_replicate]; rfl
  have hcn : isN (I.ofNat (I.len Z0)) n := by
    have : I.len Z0 = n := by rw [hI]; exact hZ.len.trans hzl
    rw [this, hI]
    rfl
  have hmath : crcSum (us0.take n) ^^^ crcSum (ws0.take n) = crcSum cs ^^^ crcSum zs := by
    have := adds_math ((us0.take n).zip (ws0.take n))
    rw [List.map_fst_zip (by omega), List.map_snd_zip (by omega), ← hcs, List.length_zip, hua, hwa, Nat.min_self, ← hzs] at this
    exact this
  generalize hxA : I.ext A0 0 n = lA at hAE
  generalize hxB : I.ext B0 0 n = lB at hBE
  refine fn_sim hI (mo hp) (cc hp c4) fun Post hP => ?_
  cbv
  refine .drawn [] ?_
  cbv
  refine .both ?_ ?_
  · cbv
    refine .size n hn (show n * 1 ≤ 140737488355328 from by omega) ?_
    cbv
    refine .size n hn (show n * 1 ≤ 140737488355328 from by omega) ?_
    cbv
    refine .loop_next (fun nn ts m => ∃ (i : Nat) (z c : Int) (L : List (List G)), nn = n - i ∧ isN z i ∧ isN c n ∧ i ≤ n ∧ isB L (cs.take i ++ zs.drop i) ∧
        ts = fr 58 [(0, .one (.c (.g (.rows 1 A0)))), (1, .one (.c (.g (.rows 1 B0)))), (5, i64 y), (6, .one (.c (.row 0 1 (some (.sym n))))), (7, .one (.c (.row 1 1 (some (.sym n))))), (19, i64 c), (20, i64 z)] ∧ m = [.sym 1 L, .sym 1 Z0])
      n _ _ [0, 1] [] [0, 1, 5, 6, 7, 19, 20] (by decide) rfl (by rw [hyy, hZ0]; rfl) (by rw [hZ0]; rfl) ⟨0, 0, I.ofNat (I.len Z0), Z0, rfl, rfl, hcn, Nat.zero_le _, hZ, rfl, rfl⟩ ?_
    rintro next nn hnext ts m ⟨i, z, c, L, hnn, hz, hc, hi, hL, rfl, rfl⟩
    have hLl : I.len L = n := by
      have := hL.len
      rw [hI]
      show L.length = _
      rw [this, List.length_append, List.length_take, List.length_drop, hcl, hzl]
      omega
    cbv
    refine .br (fun g1 => ?_) (fun g1 => ?_)
    · have hi1 : i < n := by
        have : z < c := by simpa [hI, ints, rCmp] using g1
        unfold isN at hz hc
        omega
      have hz1 : isN (I.bin .add .i64 z 1) (i + 1) := by unfold isN at hz ⊢; rw [hI]; simp only [ints, rBin]; rw [wrap_in] <;> omega
      obtain ⟨a, ha⟩ : ∃ a, us0[i]? = some a := ⟨_, List.getElem?_eq_getElem (by omega)⟩
      obtain ⟨b, hb⟩ : ∃ b, ws0[i]? = some b := ⟨_, List.getElem?_eq_getElem (by omega)⟩
      have hra := h0.get ha
      have hrb := g0.get hb
      have hrl : L[i]? = some [.int .u8 (.sym (w8 0#8))] := hL.get (by
        rw [List.getElem?_append_right (by rw [List.length_take, hcl]; omega), List.length_take, hcl, List.getElem?_drop, hzs, List.getElem?_replicate]
        rw [if_pos (by omega)])
      have hx : I.bin .xor .u8 (w8 a) (w8 b) = w8 (a ^^^ b) := by rw [hI]; exact xor8 a b
      have hstep : isB (I.set L i [.int .u8 (.sym (w8 (a ^^^ b)))]) (cs.take (i + 1) ++ zs.drop (i + 1)) := by
        rw [hI]
        show isB (L.set i _) _
        unfold isB at hL ⊢
        rw [hL]
        have hd : zs.drop i = 0#8 :: zs.drop (i + 1) := by
          rw [List.drop_eq_getElem_cons (by rw [hzl]; exact hi1)]
          congr 1
          simp [hzs]
        have hcg : cs[i]? = some (a ^^^ b) := by
          rw [hcs, List.getElem?_map, (List.getElem?_zip_eq_some (z := (a, b))).2 ⟨by rw [List.getElem?_take, if_pos hi1]; exact ha, by rw [List.getElem?_take, if_pos hi1]; exact hb⟩]
          rfl
        rw [hd, List.take_add_one, hcg]
        have htl : (cs.take i).length = i := by rw [List.length_take, hcl]; omega
        unfold nrow
        simp only [List.map_append, List.map_cons, Option.toList, List.append_assoc, List.map_nil]
        rw [List.set_append_right _ _ (by simp only [List.length_map]; omega)]
        rw [List.length_map, List.length_map, htl, Nat.sub_self]
        rfl
      have hla : i < I.len A0 := by rw [hA]; omega
      have hlb : i < I.len B0 := by rw [hBl]; omega
      have hlL : i < I.len L := by rw [hLl]; exact hi1
      generalize w8 a = wa at hra hx
      generalize w8 b = wb at hrb hx
      generalize w8 (a ^^^ b) = wx at hx hstep
      generalize w8 0#8 = wz at hrl
      cbv
      refine .drawn [0] ?_
      cbv
      refine .idx i hz hla (.nth _ hra ?_)
      cbv
      refine .idx i hz hlb (.nth _ hrb ?_)
      cbv
      refine .idx i hz hlL ?_
      cbv
      refine .nth _ hrl ?_
      cbv
      exact hnext _ _ (n - (i + 1)) [0, 1] [] [0, 1, 5, 6, 7, 19, 20] _ _ (by omega) (by decide) rfl rfl rfl ⟨i + 1, _, c, _, rfl, hz1, hc, hi1, (by rw [← hx] at hstep; exact hstep), rfl, rfl⟩
    have hin : i = n := by
      have : ¬ z < c := by simpa [hI, ints, rCmp] using g1
      unfold isN at hz hc
      omega
    have hL2 : isB L cs := by
      rw [hin, List.take_of_length_le (by omega), List.drop_of_length_le (by omega), List.append_nil] at hL
      exact hL
    cbv
    refine .drawn [] ?_
    cbv
    refine .rng 0 n rfl hy (Nat.zero_le _) hnA ?_
    cbv
    refine .rng 0 n rfl hy (Nat.zero_le _) hnB ?_
    cbv
    refine .go [] [] [.bor 1] (sum hp lA _ hAE (by omega)) rfl rfl rfl rfl (by rw [← hxA]; rfl) rfl ?_
    rintro v m1 ⟨t1, ht1, rfl, rfl⟩
    cbv
    refine .go [] [] [.bor 1] (sum hp lB _ hBE (by omega)) rfl rfl rfl rfl (by rw [← hxB]; rfl) rfl ?_
    rintro v m1 ⟨t2, ht2, rfl, rfl⟩
    cbv
    refine .go [] [] [.bor 1] (sum hp L _ hL2 (by omega)) rfl rfl rfl rfl rfl rfl ?_
    rintro v m1 ⟨t3, ht3, rfl, rfl⟩
    cbv
    refine .go [] [] [.bor 1] (sum hp Z0 _ hZ (by omega)) rfl rfl rfl rfl rfl rfl ?_
    rintro v m1 ⟨t4, ht4, rfl, rfl⟩
    have hlin : I.cmp .eql (I.bin .xor .u16 t1 t2) (I.bin .xor .u16 t3 t4) = true := by
      rw [hI, ht1, ht2, ht3, ht4]
      show (rBin .xor .u16 _ _ == rBin .xor .u16 _ _) = true
      rw [xor16, xor16, hmath]
      simp
    cbv
    refine br_t hlin ?_
    cbv
    refine .go [] [] [.bor 1] (sum hp [] [] rfl (by simp)) rfl rfl rfl rfl rfl rfl ?_
    rintro v m1 ⟨t5, ht5, rfl, rfl⟩
    cbv
    refine br_t (by rw [ht5, hI]; rfl) ?_
    cbv
    refine .go [] [] [] (wakes P hp) rfl rfl rfl rfl rfl rfl ?_
    rintro v m1 ⟨rfl, rfl⟩
    cbv
    exact hP _ _ [] [] _ _ .nil rfl rfl rfl rfl rfl ⟨_, rfl, rfl⟩
  · cbv
    refine .size n hn (show n * 1 ≤ 140737488355328 from by omega) ?_
    cbv
    refine .size n hn (show n * 1 ≤ 140737488355328 from by omega) ?_
    cbv
    refine .loop_next (fun nn ts m => ∃ (i : Nat) (z c : Int) (L : List (List G)), nn = n - i ∧ isN z i ∧ isN c n ∧ i ≤ n ∧ isB L (cs.take i ++ zs.drop i) ∧
        ts = fr 58 [(0, .one (.c (.g (.rows 1 A0)))), (1, .one (.c (.g (.rows 1 B0)))), (5, i64 y), (6, .one (.c (.row 0 1 (some (.sym n))))), (7, .one (.c (.row 1 1 (some (.sym n))))), (19, i64 c), (20, i64 z)] ∧ m = [.sym 1 L, .sym 1 Z0])
      n _ _ [1, 0] [] [0, 1, 5, 6, 7, 19, 20] (by decide) rfl (by rw [hyy, hZ0]; rfl) (by rw [hZ0]; rfl) ⟨0, 0, I.ofNat (I.len Z0), Z0, rfl, rfl, hcn, Nat.zero_le _, hZ, rfl, rfl⟩ ?_
    rintro next nn hnext ts m ⟨i, z, c, L, hnn, hz, hc, hi, hL, rfl, rfl⟩
    have hLl : I.len L = n := by
      have := hL.len
      rw [hI]
      show L.length = _
      rw [this, List.length_append, List.length_take, List.length_drop, hcl, hzl]
      omega
    cbv
    refine .br (fun g1 => ?_) (fun g1 => ?_)
    · have hi1 : i < n := by
        have : z < c := by simpa [hI, ints, rCmp] using g1
        unfold isN at hz hc
        omega
      have hz1 : isN (I.bin .add .i64 z 1) (i + 1) := by unfold isN at hz ⊢; rw [hI]; simp only [ints, rBin]; rw [wrap_in] <;> omega
      obtain ⟨a, ha⟩ : ∃ a, us0[i]? = some a := ⟨_, List.getElem?_eq_getElem (by omega)⟩
      obtain ⟨b, hb⟩ : ∃ b, ws0[i]? = some b := ⟨_, List.getElem?_eq_getElem (by omega)⟩
      have hra := h0.get ha
      have hrb := g0.get hb
      have hrl : L[i]? = some [.int .u8 (.sym (w8 0#8))] := hL.get (by
        rw [List.getElem?_append_right (by rw [List.length_take, hcl]; omega), List.length_take, hcl, List.getElem?_drop, hzs, List.getElem?_replicate]
        rw [if_pos (by omega)])
      have hx : I.bin .xor .u8 (w8 a) (w8 b) = w8 (a ^^^ b) := by rw [hI]; exact xor8 a b
      have hstep : isB (I.set L i [.int .u8 (.sym (w8 (a ^^^ b)))]) (cs.take (i + 1) ++ zs.drop (i + 1)) := by
        rw [hI]
        show isB (L.set i _) _
        unfold isB at hL ⊢
        rw [hL]
        have hd : zs.drop i = 0#8 :: zs.drop (i + 1) := by
          rw [List.drop_eq_getElem_cons (by rw [hzl]; exact hi1)]
          congr 1
          simp [hzs]
        have hcg : cs[i]? = some (a ^^^ b) := by
          rw [hcs, List.getElem?_map, (List.getElem?_zip_eq_some (z := (a, b))).2 ⟨by rw [List.getElem?_take, if_pos hi1]; exact ha, by rw [List.getElem?_take, if_pos hi1]; exact hb⟩]
          rfl
        rw [hd, List.take_add_one, hcg]
        have htl : (cs.take i).length = i := by rw [List.length_take, hcl]; omega
        unfold nrow
        simp only [List.map_append, List.map_cons, Option.toList, List.append_assoc, List.map_nil]
        rw [List.set_append_right _ _ (by simp only [List.length_map]; omega)]
        rw [List.length_map, List.length_map, htl, Nat.sub_self]
        rfl
      have hla : i < I.len A0 := by rw [hA]; omega
      have hlb : i < I.len B0 := by rw [hBl]; omega
      have hlL : i < I.len L := by rw [hLl]; exact hi1
      generalize w8 a = wa at hra hx
      generalize w8 b = wb at hrb hx
      generalize w8 (a ^^^ b) = wx at hx hstep
      generalize w8 0#8 = wz at hrl
      cbv
      refine .drawn [0] ?_
      cbv
      refine .idx i hz hla (.nth _ hra ?_)
      cbv
      refine .idx i hz hlb (.nth _ hrb ?_)
      cbv
      refine .idx i hz hlL ?_
      cbv
      refine .nth _ hrl ?_
      cbv
      exact hnext _ _ (n - (i + 1)) [0, 1] [] [0, 1, 5, 6, 7, 19, 20] _ _ (by omega) (by decide) rfl rfl rfl ⟨i + 1, _, c, _, rfl, hz1, hc, hi1, (by rw [← hx] at hstep; exact hstep), rfl, rfl⟩
    have hin : i = n := by
      have : ¬ z < c := by simpa [hI, ints, rCmp] using g1
      unfold isN at hz hc
      omega
    have hL2 : isB L cs := by
      rw [hin, List.take_of_length_le (by omega), List.drop_of_length_le (by omega), List.append_nil] at hL
      exact hL
    cbv
    refine .drawn [] ?_
    cbv
    refine .rng 0 n rfl hy (Nat.zero_le _) hnA ?_
    cbv
    refine .rng 0 n rfl hy (Nat.zero_le _) hnB ?_
    cbv
    refine .go [] [] [.bor 1] (sum hp lA _ hAE (by omega)) rfl rfl rfl rfl (by rw [← hxA]; rfl) rfl ?_
    rintro v m1 ⟨t1, ht1, rfl, rfl⟩
    cbv
    refine .go [] [] [.bor 1] (sum hp lB _ hBE (by omega)) rfl rfl rfl rfl (by rw [← hxB]; rfl) rfl ?_
    rintro v m1 ⟨t2, ht2, rfl, rfl⟩
    cbv
    refine .go [] [] [.bor 1] (sum hp L _ hL2 (by omega)) rfl rfl rfl rfl rfl rfl ?_
    rintro v m1 ⟨t3, ht3, rfl, rfl⟩
    cbv
    refine .go [] [] [.bor 1] (sum hp Z0 _ hZ (by omega)) rfl rfl rfl rfl rfl rfl ?_
    rintro v m1 ⟨t4, ht4, rfl, rfl⟩
    have hlin : I.cmp .eql (I.bin .xor .u16 t1 t2) (I.bin .xor .u16 t3 t4) = true := by
      rw [hI, ht1, ht2, ht3, ht4]
      show (rBin .xor .u16 _ _ == rBin .xor .u16 _ _) = true
      rw [xor16, xor16, hmath]
      simp
    cbv
    refine br_t hlin ?_
    cbv
    refine .go [] [] [.bor 1] (sum hp [] [] rfl (by simp)) rfl rfl rfl rfl rfl rfl ?_
    rintro v m1 ⟨t5, ht5, rfl, rfl⟩
    cbv
    refine br_t (by rw [ht5, hI]; rfl) ?_
    cbv
    refine .go [] [] [] (wakes P hp) rfl rfl rfl rfl rfl rfl ?_
    rintro v m1 ⟨rfl, rfl⟩
    cbv
    exact hP _ _ [] [] _ _ .nil rfl rfl rfl rfl rfl ⟨_, rfl, rfl⟩
end
end Go.Proofs.Ytdkbcjefbbkbcaa.E
