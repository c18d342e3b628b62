/- MemdirPlays: the walk (under way). -/
import Derived.Test.YthkkodmidnpmeaaMPlays
namespace Go.Proofs.Ythkkodmidnpmeaa.E
open Go
set_option linter.unusedVariables false
set_option maxRecDepth 100000

def isM (z : Int) (k : Nat) : Prop := z = (k : Int) - 1
section
variable {P : Program} (hp : P = Try.prog)
include hp
set_option maxHeartbeats 32000000 in
theorem mplays (s1 s2 s3 s4 s5 s6 s7 nd0 od : Int) (l0 l1 l2 l3 l4 : List (List G)) (xs : List Int) (h0 : isL .i64 l0 xs) (A0 B0 C0 D0 : List (List G)) (as0 bs0 cs0 ds0 : List Int) (hA0 : isL .i64 A0 as0) (hB0 : isL .i64 B0 bs0) (hC0 : isL .i64 C0 cs0) (hD0 : isL .i64 D0 ds0) : LValid P 5 [.agg [.g (.int .i64 (.sym s1)), .g (.int .i64 (.sym s2)), .g (.int .i64 (.sym s3)), .g (.int .i64 (.sym s4)), .g (.int .i64 (.sym s5)), .g (.int .i64 (.sym s6)), .g (.int .i64 (.sym s7)), .g (.rows 1 l0), .g (.rows 1 l1), .g (.rows 1 l2), .g (.rows 1 l3), .g (.rows 1 l4)], gi .i64 nd0, .c (.g (.rows 1 A0)), .c (.g (.rows 1 B0)), .c (.g (.rows 1 C0)), .c (.g (.rows 1 D0)), gi .i64 od] [] (fun v _ => ∃ b : BB, b.val = true ∧ v = .one (.c (.g (.bool b)))) := by
  obtain ⟨I, hI⟩ := ref
  refine fn_sim hI (mo hp) (ccj hp c5) fun Post hP => ?_
  cbv
  refine .go [] [] [.bor 1] (configF hp s1 s2 s3 s4 s5 s6 s7 l0 l1 l2 l3 l4 xs h0) rfl rfl rfl rfl rfl rfl ?_
  rintro v m1 ⟨q, L, hq, hL, rfl, rfl⟩
  have hq0 := hq
  have hd0 := dirOf_rows0 q hq
  have hnw := fun z => mnew hp q hq L hL (.sym z)
  have hnh := fun z => newHomes hp q hq L hL (.sym z)
  have hms := fun M f hM z st hd X x hX hx => mset2 hp q L M f hM (.sym z) (.sym st) (.sym hd) X x hX hx
  have hrs := fun node RL rs hR hrl z st hd X x hX hx => rset hp q hq L node RL rs hR hrl (.sym z) (.sym st) (.sym hd) X x hX hx
  have hmr := fun M f hM hs z => mrow hp q L M f hM hs (.sym z)
  have hhe := fun node RL z => here_ hp q hq L node RL (.sym z)
  have hml := fun M f hM => mlines hp q hq L M f hM
  have hsm : ∀ node, small (dir0 q.ini q.a q.c node q.b.toNat) := fun node z r h => by
    have := hq.hc
    unfold dir0 at h
    split at h
    · cases h
      show (wordsL _ _ _).length ≤ _
      rw [wordsL_len]
      omega
    · cases h
  have hrl0 : (rows0 q.ini q.c.toNat q.b.toNat).length = q.b.toNat := rows0_len _ _ _
  generalize hdd : dir0 q.ini q.a q.c = dir at hnw hd0 hsm
  generalize hrr : rows0 q.ini q.c.toNat q.b.toNat = rs0 at hnh hd0 hrl0
  have h9 : ∃ bn cn : Nat, isN q.b bn ∧ isN q.c cn ∧ bn = q.b.toNat ∧ 1 ≤ bn ∧ bn ≤ 4 ∧ 1 ≤ cn ∧ cn ≤ 2 := by
    have h1 := hq.hb
    have h2 := hq.hc
    refine ⟨q.b.toNat, q.c.toNat, ?_, ?_, rfl, ?_, ?_, ?_, ?_⟩ <;> (try unfold isN) <;> omega
  obtain ⟨bn, cn, hbn, hcn, hbt, hb1, hb4, hc1, hc2⟩ := h9
  clear hdd hrr
  obtain ⟨qa, qb, qc, qd, qe, qf, qg, ini⟩ := q
  have hbn : isN qb bn := hbn
  have hcn : isN qc cn := hcn
  cbv
  refine .go [] [] [] (within hp _ _) rfl rfl rfl rfl rfl rfl ?_
  rintro r m1 ⟨node, hnd, rfl, rfl⟩
  clear hnd
  cbv
  refine .drawn [] ?_
  cbv
  refine .go [] [] [] (hnw node) rfl rfl rfl rfl rfl rfl ?_
  rintro v m1 ⟨M0, hM0, rfl, rfl⟩
  clear hnw
  cbv
  refine .go [] [] [] (hnh node) rfl rfl rfl rfl rfl rfl ?_
  rintro v m1 ⟨R0, hR0, rfl, rfl⟩
  clear hnh
  cbv
  refine .join_next (fun ts m => ∃ (M RL : List (List G)) (f : Int → Option RW) (rs : List RW), isD M f ∧ isR RL rs ∧ rs.length = bn ∧ f = dirOf ⟨qa, qb, qc, qd, qe, qf, qg, ini⟩ node rs ∧ small f ∧
      ts = fr 237 [(15, .one (.c (.ptr 0 (.lit 0) 8 0))), (16, .one (.c (.ptr 1 (.lit 0) 9 0))), (17, .one (.c (.ptr 3 (.lit 0) 12 0)))] ∧
      m = [.lit 8 [cfg (.sym qa) (.sym qb) (.sym qc) (.sym qd) (.sym qe) (.sym qf) (.sym qg) (.g (.rows 1 L))], .lit 9 [cfg (.sym qa) (.sym qb) (.sym qc) (.sym qd) (.sym qe) (.sym qf) (.sym qg) (.g (.rows 1 L)) ++ [.map 2]], .mp (some 3) M, .lit 12 [cfg (.sym qa) (.sym qb) (.sym qc) (.sym qd) (.sym qe) (.sym qf) (.sym qg) (.g (.rows 1 L)) ++ [.g (.int .i64 (.sym node)), .row 4 3 none, .g .nil, .g .nil]], .sym 3 RL]) ?_ ?_
  · intro nextJ hnJ
    cbv
    refine .loop_next (fun n ts m => ∃ (i : Nat) (z : Int) (M RL : List (List G)) (f : Int → Option RW) (rs : List RW), n = 14 - i ∧ isN z i ∧ i ≤ 14 ∧ isD M f ∧ isR RL rs ∧ rs.length = bn ∧ f = dirOf ⟨qa, qb, qc, qd, qe, qf, qg, ini⟩ node rs ∧ small f ∧
        ts = fr 237 [(2, .one (.c (.g (.rows 1 A0)))), (3, .one (.c (.g (.rows 1 B0)))), (4, .one (.c (.g (.rows 1 C0)))), (5, .one (.c (.g (.rows 1 D0)))), (6, i64 od), (15, .one (.c (.ptr 0 (.lit 0) 8 0))), (16, .one (.c (.ptr 1 (.lit 0) 9 0))), (17, .one (.c (.ptr 3 (.lit 0) 12 0))), (18, i64 z)] ∧
        m = [.lit 8 [cfg (.sym qa) (.sym qb) (.sym qc) (.sym qd) (.sym qe) (.sym qf) (.sym qg) (.g (.rows 1 L))], .lit 9 [cfg (.sym qa) (.sym qb) (.sym qc) (.sym qd) (.sym qe) (.sym qf) (.sym qg) (.g (.rows 1 L)) ++ [.map 2]], .mp (some 3) M, .lit 12 [cfg (.sym qa) (.sym qb) (.sym qc) (.sym qd) (.sym qe) (.sym qf) (.sym qg) (.g (.rows 1 L)) ++ [.g (.int .i64 (.sym node)), .row 4 3 none, .g .nil, .g .nil]], .sym 3 RL])
      14 _ _ [1, 2, 3, 4, 5] [] [2, 3, 4, 5, 6, 15, 16, 17, 18] (by decide) rfl rfl rfl ⟨0, 0, M0, R0, _, rs0, rfl, rfl, by omega, hM0, hR0, hrl0.trans hbt.symm, (hd0 node).symm, hsm node, rfl, rfl⟩ ?_
    rintro next n hnext ts m ⟨i, z, M, RL, f, rs, hn, hz, hi, hM, hR, hrl, hf, hs, rfl, rfl⟩
    cbv
    refine .br (fun g1 => ?_) (fun g1 => ?_)
    rotate_left
    · cbv
      exact hnJ _ _ [0, 1, 2, 3, 4] [] [15, 16, 17] _ _ (by decide) rfl rfl rfl ⟨M, RL, f, rs, hM, hR, hrl, hf, hs, rfl, rfl⟩
    cbv
    refine .br (fun g2 => ?_) (fun g2 => ?_)
    rotate_left
    · cbv
      exact hnJ _ _ [0, 1, 2, 3, 4] [] [15, 16, 17] _ _ (by decide) rfl rfl rfl ⟨M, RL, f, rs, hM, hR, hrl, hf, hs, rfl, rfl⟩
    cbv
    refine .br (fun g3 => ?_) (fun g3 => ?_)
    rotate_left
    · cbv
      exact hnJ _ _ [0, 1, 2, 3, 4] [] [15, 16, 17] _ _ (by decide) rfl rfl rfl ⟨M, RL, f, rs, hM, hR, hrl, hf, hs, rfl, rfl⟩
    cbv
    refine .br (fun g4 => ?_) (fun g4 => ?_)
    rotate_left
    · cbv
      exact hnJ _ _ [0, 1, 2, 3, 4] [] [15, 16, 17] _ _ (by decide) rfl rfl rfl ⟨M, RL, f, rs, hM, hR, hrl, hf, hs, rfl, rfl⟩
    have hiA : i < as0.length := by
      have h' : rCmp .lss z ((I.len A0 : Nat) : Int) = true := by rw [hI] at g1 ⊢; exact g1
      have e : I.len A0 = as0.length := by rw [hI]; exact hA0.len
      rw [e] at h'
      have : z < (as0.length : Nat) := by simpa [rCmp] using h'
      unfold isN at hz
      omega
    have hiB : i < bs0.length := by
      have h' : rCmp .lss z ((I.len B0 : Nat) : Int) = true := by rw [hI] at g2 ⊢; exact g2
      have e : I.len B0 = bs0.length := by rw [hI]; exact hB0.len
      rw [e] at h'
      have : z < (bs0.length : Nat) := by simpa [rCmp] using h'
      unfold isN at hz
      omega
    have hiC : i < cs0.length := by
      have h' : rCmp .lss z ((I.len C0 : Nat) : Int) = true := by rw [hI] at g3 ⊢; exact g3
      have e : I.len C0 = cs0.length := by rw [hI]; exact hC0.len
      rw [e] at h'
      have : z < (cs0.length : Nat) := by simpa [rCmp] using h'
      unfold isN at hz
      omega
    have hi1 : i < 14 := by
      have : z < 14 := by simpa [hI, ints, rCmp] using g4
      unfold isN at hz
      omega
    have hz1 : isN (I.bin .add .i64 z 1) (i + 1) := by unfold isN at hz ⊢; rw [hI]; simp only [ints, rBin]; rw [wrap_in] <;> omega
    have h9 : ∃ xa, A0[i]? = some [.int .i64 (.sym xa)] := ⟨as0[i], by rw [hA0.get, List.getElem?_eq_getElem hiA]; rfl⟩
    obtain ⟨xa, hxa⟩ := h9
    have h9 : ∃ xb, B0[i]? = some [.int .i64 (.sym xb)] := ⟨bs0[i], by rw [hB0.get, List.getElem?_eq_getElem hiB]; rfl⟩
    obtain ⟨xb, hxb⟩ := h9
    have h9 : ∃ xc, C0[i]? = some [.int .i64 (.sym xc)] := ⟨cs0[i], by rw [hC0.get, List.getElem?_eq_getElem hiC]; rfl⟩
    obtain ⟨xc, hxc⟩ := h9
    have hlA : i < I.len A0 := by rw [hI]; show i < A0.length; rw [hA0.len]; exact hiA
    have hlB : i < I.len B0 := by rw [hI]; show i < B0.length; rw [hB0.len]; exact hiB
    have hlC : i < I.len C0 := by rw [hI]; show i < C0.length; rw [hC0.len]; exact hiC
    clear g1 g2 g3 g4 hiA hiB hiC
    cbv
    refine .drawn [] ?_
    cbv
    repeat' first
      | (refine .both ?_ ?_ <;> cbv)
      | (refine .idx i hz hlA ?_ <;> cbv)
      | (refine .idx i hz hlB ?_ <;> cbv)
      | (refine .idx i hz hlC ?_ <;> cbv)
      | (refine .nth _ hxa ?_ <;> cbv)
      | (refine .nth _ hxb ?_ <;> cbv)
      | (refine .nth _ hxc ?_ <;> cbv)
      | (refine .go [] [] [] (within hp _ _) rfl rfl rfl rfl rfl rfl ?_; rintro r m1 ⟨y, hy, rfl, rfl⟩; clear hy; cbv)
    refine .join_next (fun ts m => ∃ zl zs zh : Int, ts = fr 237 [(2, .one (.c (.g (.rows 1 A0)))), (3, .one (.c (.g (.rows 1 B0)))), (4, .one (.c (.g (.rows 1 C0)))), (5, .one (.c (.g (.rows 1 D0)))), (6, i64 od), (15, .one (.c (.ptr 0 (.lit 0) 8 0))), (16, .one (.c (.ptr 1 (.lit 0) 9 0))), (17, .one (.c (.ptr 3 (.lit 0) 12 0))), (18, i64 z), (19, i64 zl), (20, i64 zs), (21, i64 zh)] ∧ m = [.lit 8 [cfg (.sym qa) (.sym qb) (.sym qc) (.sym qd) (.sym qe) (.sym qf) (.sym qg) (.g (.rows 1 L))], .lit 9 [cfg (.sym qa) (.sym qb) (.sym qc) (.sym qd) (.sym qe) (.sym qf) (.sym qg) (.g (.rows 1 L)) ++ [.map 2]], .mp (some 3) M, .lit 12 [cfg (.sym qa) (.sym qb) (.sym qc) (.sym qd) (.sym qe) (.sym qf) (.sym qg) (.g (.rows 1 L)) ++ [.g (.int .i64 (.sym node)), .row 4 3 none, .g .nil, .g .nil]], .sym 3 RL]) ?_ ?_
    · intro next2 hnx
      cbv
      refine .br (fun g => ?_) (fun g => ?_)
      · clear g
        cbv
        refine .drawn [] ?_
        cbv
        repeat' first
          | (refine .both ?_ ?_ <;> cbv)
          | (refine .idx i hz hlA ?_ <;> cbv)
          | (refine .idx i hz hlB ?_ <;> cbv)
          | (refine .idx i hz hlC ?_ <;> cbv)
          | (refine .nth _ hxa ?_ <;> cbv)
          | (refine .nth _ hxb ?_ <;> cbv)
          | (refine .nth _ hxc ?_ <;> cbv)
        all_goals exact hnx _ _ [0, 1, 2, 3, 4] [] [2, 3, 4, 5, 6, 15, 16, 17, 18, 19, 20, 21] _ _ (by decide) rfl rfl rfl ⟨_, _, _, rfl, rfl⟩
      · clear g
        cbv
        exact hnx _ _ [0, 1, 2, 3, 4] [] [2, 3, 4, 5, 6, 15, 16, 17, 18, 19, 20, 21] _ _ (by decide) rfl rfl rfl ⟨_, _, _, rfl, rfl⟩
    clear hxa hxb hxc hlA hlB hlC
    rintro ts m ⟨zl, zs, zh, rfl, rfl⟩
    cbv
    refine .drawn [] ?_
    cbv
    refine .go [] [] [] (within hp _ _) rfl rfl rfl rfl rfl rfl ?_
    rintro r m1 ⟨y, hy, rfl, rfl⟩
    have h9 : ∃ n : Nat, isN (I.bin .mul .i64 y qc) n ∧ n ≤ 8 := by
      have hy : y = win (I.bin .add .i64 z od) 2 := hy
      have h2 := win_in (I.bin .add .i64 z od) 2 (by omega) (by omega)
      rw [← hy] at h2
      unfold isN at hcn
      refine ⟨y.toNat * cn, ?_, ?_⟩
      · have e : y = 0 ∨ y = 1 := by omega
        unfold isN
        rw [hI]
        show IntKind.i64.wrap (y * qc) = _
        rcases e with rfl | rfl
        · rw [wrap_in] <;> simp
        · rw [wrap_in] <;> simp <;> omega
      · have e : y = 0 ∨ y = 1 := by omega
        rcases e with rfl | rfl <;> simp <;> omega
    obtain ⟨nx, hnx2, hnx8⟩ := h9
    clear hy
    cbv
    refine .go [] [] [.bor 1] (cut8 hp D0 (.sym _) nx hnx2 hnx8) rfl rfl rfl rfl rfl rfl ?_
    rintro r m1 ⟨X0, hX0, rfl, rfl⟩
    have hD8 : ∀ k, k ≤ 8 → ∀ l', l' = D0.take k → ∃ x, isL .i64 l' x ∧ x.length ≤ 8 := fun k hk l' h => ⟨ds0.take k, by unfold isL at hD0 ⊢; rw [h, hD0]; simp [nrow, List.map_take], by rw [List.length_take]; omega⟩
    have hX0 := hD8 nx hnx8 X0 hX0
    have hc3 := cut8 hp D0 (.lit 3) 3 rfl (by omega)
    clear hnx2
    cbv
    refine .join_next (fun ts m => ∃ (X : List (List G)) (x : List Int), isL .i64 X x ∧ x.length ≤ 8 ∧ ts = fr 237 [(2, .one (.c (.g (.rows 1 A0)))), (3, .one (.c (.g (.rows 1 B0)))), (4, .one (.c (.g (.rows 1 C0)))), (5, .one (.c (.g (.rows 1 D0)))), (6, i64 od), (15, .one (.c (.ptr 0 (.lit 0) 8 0))), (16, .one (.c (.ptr 1 (.lit 0) 9 0))), (17, .one (.c (.ptr 3 (.lit 0) 12 0))), (18, i64 z), (19, i64 zl), (20, i64 zs), (21, i64 zh), (22, .one (.c (.row 5 1 none)))] ∧ m = [.lit 8 [cfg (.sym qa) (.sym qb) (.sym qc) (.sym qd) (.sym qe) (.sym qf) (.sym qg) (.g (.rows 1 L))], .lit 9 [cfg (.sym qa) (.sym qb) (.sym qc) (.sym qd) (.sym qe) (.sym qf) (.sym qg) (.g (.rows 1 L)) ++ [.map 2]], .mp (some 3) M, .lit 12 [cfg (.sym qa) (.sym qb) (.sym qc) (.sym qd) (.sym qe) (.sym qf) (.sym qg) (.g (.rows 1 L)) ++ [.g (.int .i64 (.sym node)), .row 4 3 none, .g .nil, .g .nil]], .sym 3 RL, .sym 1 X]) ?_ ?_
    · intro next2 hnx
      cbv
      refine .br (fun g => ?_) (fun g => ?_)
      · clear g
        cbv
        refine .go [] [] [.bor 1] hc3 rfl rfl rfl rfl rfl rfl ?_
        rintro r m1 ⟨X3, hX3, rfl, rfl⟩
        obtain ⟨x3, h1, h2⟩ := hD8 3 (by omega) X3 hX3
        cbv
        exact hnx _ _ [0, 1, 2, 3, 4, 6] [] [2, 3, 4, 5, 6, 15, 16, 17, 18, 19, 20, 21, 22] _ _ (by decide) rfl rfl rfl ⟨X3, x3, h1, h2, rfl, rfl⟩
      · clear g
        obtain ⟨x3, h1, h2⟩ := hX0
        cbv
        exact hnx _ _ [0, 1, 2, 3, 4, 5] [] [2, 3, 4, 5, 6, 15, 16, 17, 18, 19, 20, 21, 22] _ _ (by decide) rfl rfl rfl ⟨X0, x3, h1, h2, rfl, rfl⟩
    rintro ts m ⟨X, x, hX, hxl, rfl, rfl⟩
    have hm1 := hms M f hM zl zs zh X x hX (by omega)
    have hr1 := hrs node RL rs hR (hrl.trans hbt) zl zs zh X x hX (by omega)
    rw [← hf] at hr1
    have hs2 := small_set ⟨qa, qb, qc, qd, qe, qf, qg, ini⟩ f zl zs zh x hs hxl
    have hm1 := hm1.mono (R' := fun v m1 => ∃ (e : Int) (f2 : Int → Option RW) (M' : List (List G)), e = setErr ⟨qa, qb, qc, qd, qe, qf, qg, ini⟩ f zl zs zh x ∧ f2 = setDir ⟨qa, qb, qc, qd, qe, qf, qg, ini⟩ f zl zs zh x ∧ isD M' f2 ∧ v = i64 e ∧ m1 = [dirB ⟨qa, qb, qc, qd, qe, qf, qg, ini⟩ L, .mp (some 3) M']) fun v m1 h => h
    have hr1 := hr1.mono (R' := fun v m1 => ∃ (e : Int) (rs2 : List RW) (RL2 : List (List G)), v = i64 e ∧ m1 = [homB ⟨qa, qb, qc, qd, qe, qf, qg, ini⟩ L node, .sym 3 RL2] ∧ isR RL2 rs2 ∧ rs2.length = rs.length ∧ e = setErr ⟨qa, qb, qc, qd, qe, qf, qg, ini⟩ f zl zs zh x ∧ dirOf ⟨qa, qb, qc, qd, qe, qf, qg, ini⟩ node rs2 = setDir ⟨qa, qb, qc, qd, qe, qf, qg, ini⟩ f zl zs zh x) fun v m1 h => h
    generalize setErr ⟨qa, qb, qc, qd, qe, qf, qg, ini⟩ f zl zs zh x = se at hm1 hr1
    generalize setDir ⟨qa, qb, qc, qd, qe, qf, qg, ini⟩ f zl zs zh x = sd at hm1 hr1 hs2
    clear hX0 hD8 hc3
    cbv
    refine .go [1, 2] [] [.keep, .keep, .keep, .keep, .bor 1] hm1 rfl rfl rfl rfl rfl rfl ?_
    rintro v m1 ⟨e1, f2, M2, he1, hf2, hM2, rfl, rfl⟩
    subst hf2
    clear hm1
    cbv
    refine .go [3, 4] [] [.keep, .keep, .keep, .keep, .bor 1] hr1 rfl rfl rfl rfl rfl rfl ?_
    rintro v m1 ⟨e2, rs2, RL2, rfl, rfl, hR2, hrl2, he2, hd2⟩
    have hrl3 := hrl2.trans hrl
    clear hr1
    cbv
    refine br_f (show I.cmp .neq e1 e2 = false from by rw [he1, he2, hI]; show (se != se) = false; simp) ?_
    have hXl : I.len X = x.length := by rw [hI]; exact hX.len
    have hXn : isN (I.ofNat (I.len X)) x.length := by rw [hXl, hI]; rfl
    cbv
    refine .loop_next (fun n ts m => ∃ (k : Nat) (u c : Int) (X2 : List (List G)) (x2 : List Int), n = x.length - k ∧ isN u k ∧ isN c x.length ∧ k ≤ x.length ∧ isL .i64 X2 x2 ∧ x2.length = x.length ∧ ts = fr 237 [(2, .one (.c (.g (.rows 1 A0)))), (3, .one (.c (.g (.rows 1 B0)))), (4, .one (.c (.g (.rows 1 C0)))), (5, .one (.c (.g (.rows 1 D0)))), (6, i64 od), (15, .one (.c (.ptr 0 (.lit 0) 8 0))), (16, .one (.c (.ptr 1 (.lit 0) 9 0))), (17, .one (.c (.ptr 3 (.lit 0) 12 0))), (18, i64 z), (22, .one (.c (.row 5 1 none))), (132, i64 c), (133, i64 u)] ∧ m = [.lit 8 [cfg (.sym qa) (.sym qb) (.sym qc) (.sym qd) (.sym qe) (.sym qf) (.sym qg) (.g (.rows 1 L))], .lit 9 [cfg (.sym qa) (.sym qb) (.sym qc) (.sym qd) (.sym qe) (.sym qf) (.sym qg) (.g (.rows 1 L)) ++ [.map 2]], .mp (some 3) M2, .lit 12 [cfg (.sym qa) (.sym qb) (.sym qc) (.sym qd) (.sym qe) (.sym qf) (.sym qg) (.g (.rows 1 L)) ++ [.g (.int .i64 (.sym node)), .row 4 3 none, .g .nil, .g .nil]], .sym 3 RL2, .sym 1 X2])
      x.length _ _ [0, 1, 2, 3, 4, 5] [] [2, 3, 4, 5, 6, 15, 16, 17, 18, 22, 132, 133] (by decide) rfl rfl rfl ⟨0, 0, _, X, x, rfl, rfl, hXn, Nat.zero_le _, hX, rfl, rfl, rfl⟩ ?_
    rintro next2 n2 hnext2 ts m ⟨k, u, c, X2, x2, hn2, hu, hc, hk, hX2, hx2, rfl, rfl⟩
    cbv
    refine .br (fun g => ?_) (fun g => ?_)
    · have hk1 : k < x.length := by
        have : u < c := by simpa [hI, ints, rCmp] using g
        unfold isN at hu hc
        omega
      have hu1 : isN (I.bin .add .i64 u 1) (k + 1) := by unfold isN at hu ⊢; rw [hI]; simp only [ints, rBin]; rw [wrap_in] <;> omega
      have h9 : ∃ w, x2[k]? = some w := ⟨_, List.getElem?_eq_getElem (by rw [hx2]; exact hk1)⟩
      obtain ⟨w, hw⟩ := h9
      have hr : X2[k]? = some [.int .i64 (.sym w)] := by rw [hX2.get, hw]; rfl
      have hkl : k < I.len X2 := by rw [hI]; show k < X2.length; rw [hX2.len, hx2]; exact hk1
      have h9 : ∃ x3, isL .i64 (I.set X2 k [.int .i64 (.sym (I.bin .xor .i64 w 1))]) x3 ∧ x3.length = x.length := by
        refine ⟨x2.set k (I.bin .xor .i64 w 1), ?_, by simpa using hx2⟩
        generalize I.bin .xor .i64 w 1 = y
        rw [hI]
        unfold isL at hX2 ⊢
        rw [hX2]
        simp [nrow, ints, List.map_set]
      obtain ⟨x3, hset, hsl⟩ := h9
      clear g hw
      cbv
      refine .idx k hu hkl (.nth _ hr ?_)
      cbv
      refine .idx k hu hkl (.nth _ hr ?_)
      cbv
      exact hnext2 _ _ (x.length - (k + 1)) [0, 1, 2, 3, 4, 5] [] [2, 3, 4, 5, 6, 15, 16, 17, 18, 22, 132, 133] _ _ (by omega) (by decide) rfl rfl rfl ⟨k + 1, _, c, _, x3, rfl, hu1, hc, hk1, hset, hsl, rfl, rfl⟩
    · cbv
      exact hnext _ _ (14 - (i + 1)) [0, 1, 2, 3, 4] [] [2, 3, 4, 5, 6, 15, 16, 17, 18] _ _ (by omega) (by decide) rfl rfl rfl ⟨i + 1, _, M2, RL2, f2, rs2, rfl, hz1, hi1, hM2, hR2, hrl3, hd2.symm, hs2, rfl, rfl⟩
  · rintro ts m ⟨M, RL, f, rs, hM, hR, hrl, hf, hs, rfl, rfl⟩
    cbv
    refine .own 24 1 rfl ?_
    refine .loop_next (fun n ts m => ∃ (k : Nat) (z : Int) (WL : List (List G)), n = bn + 2 - k ∧ isM z k ∧ k ≤ bn + 2 ∧ isL .i64 WL (wantL f k) ∧
        ts = fr 237 [(15, .one (.c (.ptr 0 (.lit 0) 8 0))), (16, .one (.c (.ptr 1 (.lit 0) 9 0))), (17, .one (.c (.ptr 3 (.lit 0) 12 0))), (24, .one (.c (.row 5 1 none))), (25, i64 z)] ∧ m = [.lit 8 [cfg (.sym qa) (.sym qb) (.sym qc) (.sym qd) (.sym qe) (.sym qf) (.sym qg) (.g (.rows 1 L))], .lit 9 [cfg (.sym qa) (.sym qb) (.sym qc) (.sym qd) (.sym qe) (.sym qf) (.sym qg) (.g (.rows 1 L)) ++ [.map 2]], .mp (some 3) M, .lit 12 [cfg (.sym qa) (.sym qb) (.sym qc) (.sym qd) (.sym qe) (.sym qf) (.sym qg) (.g (.rows 1 L)) ++ [.g (.int .i64 (.sym node)), .row 4 3 none, .g .nil, .g .nil]], .sym 3 RL, .sym 1 WL])
      (bn + 2) _ _ [0, 1, 2, 3, 4, 5] [] [15, 16, 17, 24, 25] (by decide) rfl rfl rfl ⟨0, -1, [], rfl, by unfold isM; rfl, Nat.zero_le _, rfl, rfl, rfl⟩ ?_
    rintro next n hnext ts m ⟨k, z, WL, hn, hz, hk, hW, rfl, rfl⟩
    cbv
    refine .br (fun g1 => ?_) (fun g1 => ?_)
    · have hk1 : k < bn + 2 := by
        have : z ≤ qb := by simpa [hI, ints, rCmp] using g1
        unfold isM at hz
        unfold isN at hbn
        omega
      have hz1 : isM (I.bin .add .i64 z 1) (k + 1) := by unfold isM at hz ⊢; rw [hI]; simp only [ints, rBin]; rw [wrap_in] <;> omega
      have hmr := hmr M f hM hs z
      have hhe := hhe node RL z
      have hhf : hereB ⟨qa, qb, qc, qd, qe, qf, qg, ini⟩ node z = (f z).isSome := by
        rw [hf]
        unfold dirOf
        by_cases h : hereB ⟨qa, qb, qc, qd, qe, qf, qg, ini⟩ node z = true
        · rw [if_pos h, h]
          unfold hereB at h
          simp only [Bool.and_eq_true, decide_eq_true_eq] at h
          have h2 : z < qb := h.2.1
          unfold isN at hbn
          rw [List.getElem?_eq_getElem (by omega)]
          rfl
        · rw [if_neg h]
          cases hb : hereB ⟨qa, qb, qc, qd, qe, qf, qg, ini⟩ node z with
          | true => exact absurd hb h
          | false => rfl
      rw [show (Z.sym z).val = z from rfl] at hmr hhe
      rw [hhf] at hhe
      have hst := wantL_step f k
      have hzk : (k : Int) - 1 = z := by unfold isM at hz; omega
      rw [hzk] at hst
      clear g1 hzk hhf
      cbv
      refine .go [1, 2] [] [] hmr rfl rfl rfl rfl rfl rfl ?_
      rintro v m1 (⟨hfz, rfl, rfl⟩ | ⟨r, D, hfz, hD, rfl, rfl⟩)
      · rw [hfz] at hhe hst
        have hst : wantL f (k + 1) = wantL f k := by rw [hst]; simp
        clear hmr
        cbv
        refine .drawn [3, 4] ?_
        cbv
        refine .go [3, 4] [] [] hhe rfl rfl rfl rfl rfl rfl ?_
        rintro v m1 ⟨t, ht, rfl, rfl⟩
        have ht : t = false := ht
        subst ht
        clear hhe
        cbv
        refine br_f (show I.not (I.beq false false) = false from by rw [hI]; rfl) ?_
        cbv
        refine .br (fun g => (by cases g)) (fun _ => ?_)
        have e1 : I.not false = true := by rw [hI]; rfl
        have e2 : I.cmp .neq 0 0 = false := by rw [hI]; rfl
        have e3 : I.cmp .neq (I.ofNat (I.len [])) 0 = false := by rw [hI]; rfl
        rw [← hst] at hW
        cbv
        repeat' first
          | (refine .both ?_ ?_ <;> cbv)
          | (refine br_t e1 ?_; cbv)
          | (refine br_f e2 ?_; cbv)
          | (refine br_f e3 ?_; cbv)
          | (refine .br (fun g => (by cases g)) (fun _ => ?_); cbv)
          | (refine .pass ?_; cbv)
        all_goals exact hnext _ _ (bn + 2 - (k + 1)) [0, 1, 2, 3, 4, 5] [] [15, 16, 17, 24, 25] _ _ (by omega) (by decide) rfl rfl rfl ⟨k + 1, _, WL, rfl, hz1, by omega, hW, rfl, rfl⟩
      · have hft : (f z).isSome = true := by rw [hfz]; rfl
        rw [hft] at hhe hst
        have h9 : ∃ n : Nat, isN z n ∧ rs[n]? = some r := by
          rw [hf] at hfz
          unfold dirOf at hfz
          split at hfz
          · rename_i hh
            unfold hereB at hh
            simp only [Bool.and_eq_true, decide_eq_true_eq] at hh
            exact ⟨z.toNat, by unfold isN; omega, hfz⟩
          · cases hfz
        obtain ⟨nr, hnr, hrr⟩ := h9
        have h9 : ∃ Y, Y = nrow .i64 r.d := ⟨_, rfl⟩
        obtain ⟨Y, hY⟩ := h9
        have hYl : isL .i64 Y r.d := hY
        have hrow : RL[nr]? = some [.int .i64 (.sym r.s), .int .i64 (.sym r.h), .rows 1 Y] := by rw [hY]; exact hR.get hrr
        have hnl : nr < I.len RL := by rw [hI]; exact (List.getElem?_eq_some_iff.1 hrow).1
        have hd8 : r.d.length ≤ 1000 := hs z r hfz
        obtain ⟨rS, rH, rd⟩ := r
        have hD : isL .i64 D rd := hD
        have hYl : isL .i64 Y rd := hYl
        have hd8 : rd.length ≤ 1000 := hd8
        have hrow : RL[nr]? = some [.int .i64 (.sym rS), .int .i64 (.sym rH), .rows 1 Y] := hrow
        have hD8 : D.length * 8 ≤ 140737488355328 := by rw [hD.len]; omega
        have hsr := sameRow_ hp rS rH rS rH D Y rd rd hD hYl hD8
        have hst : wantL f (k + 1) = wantL f k ++ [z] := by rw [hst]; simp
        clear hY
        cbv
        refine .drawn [3, 4] ?_
        cbv
        refine .go [3, 4] [] [] hhe rfl rfl rfl rfl rfl rfl ?_
        rintro v m1 ⟨t, ht, rfl, rfl⟩
        have ht : t = true := ht
        subst ht
        clear hhe
        cbv
        refine br_f (show I.not (I.beq true true) = false from by rw [hI]; rfl) ?_
        have e1 : I.not true = false := by rw [hI]; rfl
        have e5 : ∀ t, t = true → I.not t = false := fun t h => by rw [h, hI]; rfl
        have e4 : (rS == rS && (rH == rH && (rd == rd))) = true := by simp
        rw [e4] at hsr
        cbv
        repeat' first
          | (refine .both ?_ ?_ <;> cbv)
          | (refine .idx nr hnr hnl ?_; cbv)
          | (refine .nth _ hrow ?_; cbv)
          | (refine br_f e1 ?_; cbv)
          | (refine .go [] [] [.bor 1, .bor 1] hsr rfl rfl rfl rfl rfl rfl ?_; rintro v m1 ⟨t, ht, rfl, rfl⟩; have et : I.not t = false := e5 t ht; clear ht; cbv; refine br_f et ?_; cbv)
          | (refine .br (fun _ => ?_) (fun g => (by cases g)); cbv)
        all_goals
          have hW2 : isL .i64 (I.app WL [[.int .i64 (.sym z)]]) (wantL f (k + 1)) := by
            rw [hst, hI]
            unfold isL at hW ⊢
            rw [hW]
            simp [nrow, ints]
          have hW8 : I.len (I.app WL [[.int .i64 (.sym z)]]) ≤ 8 := by
            have h1 := hW2.len
            have h2 : (wantL f (k + 1)).length ≤ 6 := by
              unfold wantL
              refine Nat.le_trans (List.length_filter_le _ _) ?_
              simp
              omega
            have h3 : I.len (I.app WL [[.int .i64 (.sym z)]]) = (I.app WL [[.int .i64 (.sym z)]]).length := by rw [hI]; rfl
            omega
          have hDn : isN (I.ofNat (I.len D)) rd.length := by
            have : I.len D = rd.length := by rw [hI]; exact hD.len
            rw [this, hI]; rfl
          have hd1000 : rd.length ≤ 1000 := hd8
          clear hst
          refine .pass ?_
          cbv
          refine .br (fun _ => ?_) (fun g => (by cases g))
          cbv
          refine .most (show I.len (I.app WL [[.int .i64 (.sym z)]]) * 8 ≤ 140737488355328 from by omega) (show I.len (I.app WL [[.int .i64 (.sym z)]]) ≤ 140737488355328 from by omega) ?_
          generalize I.app WL [[.int .i64 (.sym z)]] = WL2 at hW2 ⊢
          cbv
          refine .loop_next (fun n ts m => ∃ (j : Nat) (u c : Int) (D2 : List (List G)) (d2 : List Int), n = rd.length - j ∧ isN u j ∧ isN c rd.length ∧ j ≤ rd.length ∧ isL .i64 D2 d2 ∧ d2.length = rd.length ∧
              ts = fr 237 [(15, .one (.c (.ptr 0 (.lit 0) 8 0))), (16, .one (.c (.ptr 1 (.lit 0) 9 0))), (17, .one (.c (.ptr 3 (.lit 0) 12 0))), (24, .one (.c (.row 5 1 none))), (25, i64 z), (26, .one (.c (.ptr 7 (.lit 0) 3 0))), (202, i64 c), (203, i64 u)] ∧
              m = [.lit 8 [cfg (.sym qa) (.sym qb) (.sym qc) (.sym qd) (.sym qe) (.sym qf) (.sym qg) (.g (.rows 1 L))], .lit 9 [cfg (.sym qa) (.sym qb) (.sym qc) (.sym qd) (.sym qe) (.sym qf) (.sym qg) (.g (.rows 1 L)) ++ [.map 2]], .mp (some 3) M, .lit 12 [cfg (.sym qa) (.sym qb) (.sym qc) (.sym qd) (.sym qe) (.sym qf) (.sym qg) (.g (.rows 1 L)) ++ [.g (.int .i64 (.sym node)), .row 4 3 none, .g .nil, .g .nil]], .sym 3 RL, .sym 1 WL2, .sym 1 D2, .lit 3 [[.g (.int .i64 (.sym rS)), .g (.int .i64 (.sym rH)), .row 6 1 none]]])
            rd.length _ _ [0, 1, 2, 3, 4, 9, 6, 7] [] [15, 16, 17, 24, 25, 26, 202, 203] (by decide) rfl rfl rfl ⟨0, 0, _, D, rd, rfl, rfl, hDn, Nat.zero_le _, hD, rfl, rfl, rfl⟩ ?_
          rintro next2 n2 hnext2 ts m ⟨j, u, c, D2, d2, hn2, hu, hc, hj, hD2, hd2, rfl, rfl⟩
          cbv
          refine .br (fun g => ?_) (fun g => ?_)
          · have hj1 : j < rd.length := by
              have : u < c := by simpa [hI, ints, rCmp] using g
              unfold isN at hu hc
              omega
            have hu1 : isN (I.bin .add .i64 u 1) (j + 1) := by unfold isN at hu ⊢; rw [hI]; simp only [ints, rBin]; rw [wrap_in] <;> omega
            have h9 : ∃ w, d2[j]? = some w := ⟨_, List.getElem?_eq_getElem (by rw [hd2]; exact hj1)⟩
            obtain ⟨w, hw⟩ := h9
            have hr : D2[j]? = some [.int .i64 (.sym w)] := by rw [hD2.get, hw]; rfl
            have hjl : j < I.len D2 := by rw [hI]; show j < D2.length; rw [hD2.len, hd2]; exact hj1
            have h9 : ∃ d3, isL .i64 (I.set D2 j [.int .i64 (.sym (I.bin .xor .i64 w 1))]) d3 ∧ d3.length = rd.length := by
              refine ⟨d2.set j (I.bin .xor .i64 w 1), ?_, by simpa using hd2⟩
              generalize I.bin .xor .i64 w 1 = y
              rw [hI]
              unfold isL at hD2 ⊢
              rw [hD2]
              simp [nrow, ints, List.map_set]
            obtain ⟨d3, hset, hsl⟩ := h9
            clear g hw
            cbv
            refine .idx j hu hjl (.nth _ hr ?_)
            cbv
            refine .idx j hu hjl (.nth _ hr ?_)
            cbv
            exact hnext2 _ _ (rd.length - (j + 1)) [0, 1, 2, 3, 4, 5, 6, 7] [] [15, 16, 17, 24, 25, 26, 202, 203] _ _ (by omega) (by decide) rfl rfl rfl ⟨j + 1, _, c, _, d3, rfl, hu1, hc, hj1, hset, hsl, rfl, rfl⟩
          · clear g
            cbv
            refine .go [1, 2] [] [] hmr rfl rfl rfl rfl rfl rfl ?_
            rintro v m1 (⟨hfz2, rfl, rfl⟩ | ⟨r2, D3, hfz2, hD3, rfl, rfl⟩)
            · rw [hfz] at hfz2
              cases hfz2
            have hr2 : RW.mk rS rH rd = r2 := Option.some.inj (hfz.symm.trans hfz2)
            subst hr2
            have hD3 : isL .i64 D3 rd := hD3
            have hD38 : D3.length * 8 ≤ 140737488355328 := by rw [hD3.len]; omega
            have hsr := sameRow_ hp rS rH rS rH D3 Y rd rd hD3 hYl hD38
            rw [e4] at hsr
            clear hmr
            cbv
            refine .drawn [] ?_
            cbv
            repeat' first
              | (refine .both ?_ ?_ <;> cbv)
              | (refine .idx nr hnr hnl ?_; cbv)
              | (refine .nth _ hrow ?_; cbv)
              | (refine br_f e1 ?_; cbv)
              | (refine .go [] [] [.bor 1, .bor 1] hsr rfl rfl rfl rfl rfl rfl ?_; rintro v m1 ⟨t, ht, rfl, rfl⟩; have et : I.not t = false := e5 t ht; clear ht; cbv; refine br_f et ?_; cbv)
            exact hnext _ _ (bn + 2 - (k + 1)) [0, 1, 2, 3, 4, 5] [] [15, 16, 17, 24, 25] _ _ (by omega) (by decide) rfl rfl rfl ⟨k + 1, _, WL2, rfl, hz1, by omega, hW2, rfl, rfl⟩
    · have hk2 : k = bn + 2 := by
        have : ¬ z ≤ qb := by simpa [hI, ints, rCmp] using g1
        unfold isM at hz
        unfold isN at hbn
        omega
      have hfm : f (-1) = none := by
        rw [hf]
        unfold dirOf hereB
        rw [if_neg (by simp)]
      have hfb : f bn = none := by
        rw [hf]
        unfold dirOf hereB
        unfold isN at hbn
        rw [if_neg (by
          show ¬ (decide (0 ≤ (bn : Int)) && (decide ((bn : Int) < qb) && _)) = true
          rw [hbn]
          simp)]
      rw [hk2, wantL_end f bn hfm hfb] at hW
      have hml := hml M f hM
      rw [← hbt] at hml
      have hll : (linesL f bn).length ≤ 4 := by
        unfold linesL
        refine Nat.le_trans (List.length_filter_le _ _) ?_
        simp
        omega
      generalize linesL f bn = ll at hml hW hll
      clear hnext g1 hz hk hn
      cbv
      refine .go [1, 2] [] [] hml rfl rfl rfl rfl rfl rfl ?_
      rintro v m1 ⟨O, hO, rfl, rfl⟩
      have hsm := same hp O WL ll ll hO hW (by rw [hO.len]; omega)
      clear hml
      cbv
      refine .go [] [] [.bor 1, .bor 1] hsm rfl rfl rfl rfl rfl rfl ?_
      rintro v m1 ⟨t, ht, rfl, rfl⟩
      have ht : t = true := by rw [ht]; simp
      cbv
      refine br_t ht ?_
      cbv
      refine .go [] [] [] (wakes9 hp) rfl rfl rfl rfl rfl rfl ?_
      rintro v m1 ⟨rfl, rfl⟩
      cbv
      exact hP _ _ [] [] _ _ .nil rfl rfl rfl rfl rfl ⟨_, rfl, rfl⟩
end
end Go.Proofs.Ythkkodmidnpmeaa.E
