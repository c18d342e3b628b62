/- PlanTells, for a setup of 4 nodes. -/
import Derived.Test.YtdfbpdbfiffpbaaPG4
import Derived.Test.YtdfbpdbfiffpbaaPT
namespace Go.Proofs.Ytdfbpdbfiffpbaa.E
open Go
set_option linter.unusedVariables false
set_option maxRecDepth 100000

section
variable {P : Program} (hp : P = Try.prog)
include hp
set_option maxHeartbeats 16000000 in
theorem ptells4 (s1 s2 s3 s4 s5 s6 s7 line0 addr0 zm : Int) (l0 W0 K0 A0 V0 B3 B4 B5 : List (List G)) (xs ws ks ax vs b3 b4 b5 : List Int) (h0 : isL .i64 l0 xs) (hW : isL .i64 W0 ws) (hK : isL .i64 K0 ks) (hA : isL .i64 A0 ax) (hV : isL .i64 V0 vs) (hB3 : isL .i64 B3 b3) (hB4 : isL .i64 B4 b4) (hB5 : isL .i64 B5 b5) (hn : (CFof s1 s2 s3 s4 s5 s6 s7 xs).a = 4) :
    LValid P 8 [.agg [.g (.int .i64 (.sym s1)), .g (.int .i64 (.sym s2)), .g (.int .i64 (.sym s3)), .g (.int .i64 (.sym s4)), .g (.int .i64 (.sym s5)), .g (.int .i64 (.sym s6)), .g (.int .i64 (.sym s7)), .g (.rows 1 l0), .g (.rows 1 W0), .g (.rows 1 K0), .g (.rows 1 A0), .g (.rows 1 V0)], gi .i64 line0, gi .i64 addr0, .c (.g (.rows 1 B3)), .c (.g (.rows 1 B4)), .c (.g (.rows 1 B5)), gi .i64 zm] [] (fun v _ => ∃ b : BB, b.val = true ∧ v = .one (.c (.g (.bool b)))) := by
  obtain ⟨I, hI⟩ := ref
  have hcE := configE hp s1 s2 s3 s4 s5 s6 s7 l0 W0 K0 A0 V0 xs h0
  have hpr := programs4 hp s1 s2 s3 s4 s5 s6 s7 l0 W0 K0 A0 V0 xs ws ks ax vs h0 hW hK hA hV (.lit 12) (by decide) hn
  have hpr := hpr.mono (R' := fun v m1 => ∃ (L0 L1 L2 L3 : List (List G)) (o0 o1 o2 o3 : List OP), isP L0 o0 (okOp (CFof s1 s2 s3 s4 s5 s6 s7 xs)) ∧ isP L1 o1 (okOp (CFof s1 s2 s3 s4 s5 s6 s7 xs)) ∧ isP L2 o2 (okOp (CFof s1 s2 s3 s4 s5 s6 s7 xs)) ∧ isP L3 o3 (okOp (CFof s1 s2 s3 s4 s5 s6 s7 xs)) ∧ v = .one (.c (.row 0 1 (some (.lit 4)))) ∧ m1 = [.lit 1 [[.row 1 3 none], [.row 2 3 none], [.row 3 3 none], [.row 4 3 none]], .sym 3 L0, .sym 3 L1, .sym 3 L2, .sym 3 L3]) (fun v m1 h => h)
  generalize CFof s1 s2 s3 s4 s5 s6 s7 xs = q at hcE hn
  obtain ⟨qa, qb, qc, qd, qe, qf, qg, ini⟩ := q
  have hn : qa = 4 := hn
  subst hn
  have hne : ∀ x, I.cmp .neq x x = false := fun x => by rw [hI]; show (x != x) = false; simp
  have hnt : ∀ t, t = true → I.not t = false := fun t h => by rw [h, hI]; rfl
  have hpo := playOps hp B3 B4 B5 b3 b4 b5 hB3 hB4 hB5 (fun _ => True) trivial (fun _ _ => trivial)
  refine fn_sim hI (mo hp) (ccj hp c8) fun Post hP => ?_
  cbv
  refine .go [] [] [.bor 1] hcE rfl rfl rfl rfl rfl rfl ?_
  rintro v m1 ⟨hq, L, hL, rfl, rfl⟩
  clear hcE
  have hb := hq.hb
  have hc := hq.hc
  have hd := hq.hd
  have hb : 1 ≤ qb ∧ qb ≤ 4 := hb
  have hc : 1 ≤ qc ∧ qc ≤ 2 := hc
  have hd : 1 ≤ qd ∧ qd ≤ 2 := hd
  have hho := fun v => homeOf hp 4 qb qc qd qe qf qg v L (by omega)
  have hso := fun v => setOf hp 4 qb qc qd qe qf qg (.sym v) L (by omega)
  have hlo := fun v => lineOf hp 4 qb qc qd qe qf qg v L hb hc
  have had := (addrs hp 4 qb qc qd qe qf qg L).mono (R' := fun v m1 => v = i64 (I.bin .mul .i64 qb qc) ∧ m1 = []) (fun v m1 ⟨t, h1, h2, h3⟩ => ⟨by rw [h2, h1, hI]; rfl, h3⟩)
  have hwo := fun z => wordsG hp _ hq L hL z
  have hro := fun z => rwordsG hp _ hq L hL z
  have hwl := fun z => wordsA_len _ hq z
  have hplan := fun LP ps h h1 h2 => planOps hp _ hq L LP ps h h1 h2
  have hrop := fun LP ps h h1 h2 => rOps hp _ hq L LP ps h h1 h2
  generalize wordsA ⟨4, qb, qc, qd, qe, qf, qg, ini⟩ = wA at hwo hro hwl
  generalize okProgs ⟨4, qb, qc, qd, qe, qf, qg, ini⟩ = okP at hplan hrop
  have hlnW : ∀ a, lnW qb qc a = if a < 0 ∨ qb * qc ≤ a then (-1, 0) else (a.tdiv qc, a.tmod qc) := fun a => rfl
  have hbc : I.bin .mul .i64 qb qc = qb * qc := by rw [hI]; exact inB_prod 0 qb qc hb hc
  have hqo : ∀ a, ¬ a < 0 → ¬ qb * qc ≤ a → I.bin .quo .i64 a qc = a.tdiv qc := fun a h1 h2 => by rw [hI]; exact quo_in a qb qc hb hc h1 h2
  have hre : ∀ a b, I.bin .rem .i64 a b = a.tmod b := fun a b => by rw [hI]; rfl
  have hqc0 : qc ≠ 0 := by omega
  have hqd0 : qd ≠ 0 := by omega
  clear hL hq
  cbv
  refine .join_next (fun ts m => ∃ line : Int, ts = fr 154 [(1, i64 line), (2, i64 addr0), (3, .one (.c (.g (.rows 1 B3)))), (4, .one (.c (.g (.rows 1 B4)))), (5, .one (.c (.g (.rows 1 B5)))), (6, i64 zm), (7, .one (.c (.ptr 0 (.lit 0) 12 0))), (15, .one (.c (.ptr 1 (.lit 0) 8 0)))] ∧ m = [.lit 12 [[.g (.int .i64 (.sym s1)), .g (.int .i64 (.sym s2)), .g (.int .i64 (.sym s3)), .g (.int .i64 (.sym s4)), .g (.int .i64 (.sym s5)), .g (.int .i64 (.sym s6)), .g (.int .i64 (.sym s7)), .g (.rows 1 l0), .g (.rows 1 W0), .g (.rows 1 K0), .g (.rows 1 A0), .g (.rows 1 V0)]], .lit 8 [cfg (.sym 4) (.sym qb) (.sym qc) (.sym qd) (.sym qe) (.sym qf) (.sym qg) (.g (.rows 1 L))]]) ?_ ?_
  · intro next2 hnx
    cbv
    refine .br (fun g => ?_) (fun g => ?_)
    · clear g
      cbv
      refine .go [] [] [] (within hp _ _) rfl rfl rfl rfl rfl rfl ?_
      rintro r m1 ⟨y, hy, rfl, rfl⟩
      clear hy
      cbv
      exact hnx _ _ [0, 1] [] [1, 2, 3, 4, 5, 6, 7, 15] _ _ (by decide) rfl rfl rfl ⟨_, rfl, rfl⟩
    · clear g
      cbv
      exact hnx _ _ [0, 1] [] [1, 2, 3, 4, 5, 6, 7, 15] _ _ (by decide) rfl rfl rfl ⟨_, rfl, rfl⟩
  rintro ts m ⟨line, rfl, rfl⟩
  cbv
  refine .join_next (fun ts m => ∃ addr : Int, ts = fr 154 [(1, i64 line), (2, i64 addr), (3, .one (.c (.g (.rows 1 B3)))), (4, .one (.c (.g (.rows 1 B4)))), (5, .one (.c (.g (.rows 1 B5)))), (6, i64 zm), (7, .one (.c (.ptr 0 (.lit 0) 12 0))), (15, .one (.c (.ptr 1 (.lit 0) 8 0)))] ∧ m = [.lit 12 [[.g (.int .i64 (.sym s1)), .g (.int .i64 (.sym s2)), .g (.int .i64 (.sym s3)), .g (.int .i64 (.sym s4)), .g (.int .i64 (.sym s5)), .g (.int .i64 (.sym s6)), .g (.int .i64 (.sym s7)), .g (.rows 1 l0), .g (.rows 1 W0), .g (.rows 1 K0), .g (.rows 1 A0), .g (.rows 1 V0)]], .lit 8 [cfg (.sym 4) (.sym qb) (.sym qc) (.sym qd) (.sym qe) (.sym qf) (.sym qg) (.g (.rows 1 L))]]) ?_ ?_
  · intro next2 hnx
    cbv
    refine .br (fun g => ?_) (fun g => ?_)
    · clear g
      cbv
      refine .go [] [] [] (within hp _ _) rfl rfl rfl rfl rfl rfl ?_
      rintro r m1 ⟨y, hy, rfl, rfl⟩
      clear hy
      cbv
      exact hnx _ _ [0, 1] [] [1, 2, 3, 4, 5, 6, 7, 15] _ _ (by decide) rfl rfl rfl ⟨_, rfl, rfl⟩
    · clear g
      cbv
      exact hnx _ _ [0, 1] [] [1, 2, 3, 4, 5, 6, 7, 15] _ _ (by decide) rfl rfl rfl ⟨_, rfl, rfl⟩
  rintro ts m ⟨addr, rfl, rfl⟩
  have hh : ¬ line < 0 → line.tmod 4 = rst line 4 := fun h => by unfold rst; rw [if_neg h]
  have hs : ¬ line < 0 → line.tmod qd = rst line qd := fun h => by unfold rst; rw [if_neg h]
  have hh0 : line < 0 → -1 = rst line 4 := fun h => by unfold rst; rw [if_pos h]
  have hs0 : line < 0 → -1 = rst line qd := fun h => by unfold rst; rw [if_pos h]
  have hho := hho line
  have hso := hso line
  have hso : LValid P 18 [.agg (cfg (.sym 4) (.sym qb) (.sym qc) (.sym qd) (.sym qe) (.sym qf) (.sym qg) (.bor 1 L)), .c (.g (.int .i64 (.sym line)))] [] (fun r m1 => ∃ t, t = rst line qd ∧ r = i64 t ∧ m1 = []) := hso
  have hlo := hlo addr
  generalize rst line 4 = H at hh hh0 hho
  generalize rst line qd = S at hs hs0 hso
  have hl1 : ¬ addr < 0 → ¬ qb * qc ≤ addr → addr.tdiv qc = (lnW qb qc addr).1 ∧ addr.tmod qc = (lnW qb qc addr).2 := fun h1 h2 => by rw [hlnW, if_neg (by omega)]; exact ⟨rfl, rfl⟩
  have hl0 : addr < 0 ∨ qb * qc ≤ addr → -1 = (lnW qb qc addr).1 ∧ 0 = (lnW qb qc addr).2 := fun h => by rw [hlnW, if_pos h]; exact ⟨rfl, rfl⟩
  have hl1 := fun h1 h2 => And.intro ((hqo addr h1 h2).trans (hl1 h1 h2).1) ((hre addr qc).trans (hl1 h1 h2).2)
  generalize lnW qb qc addr = LW at hl0 hl1 hlo
  obtain ⟨lt, lu⟩ := LW
  have hlo := hlo.mono (R' := fun v m1 => v = .tup [.c (.g (.int .i64 (.sym lt))), .c (.g (.int .i64 (.sym lu)))] ∧ m1 = []) (fun v m1 ⟨t, u, h1, h2, h3, h4⟩ => ⟨by rw [h3, h1, h2], h4⟩)
  have hho := hho.mono (R' := fun v m1 => v = i64 H ∧ m1 = []) (fun v m1 ⟨t, h1, h2, h3⟩ => ⟨by rw [h2, h1], h3⟩)
  have hso := hso.mono (R' := fun v m1 => v = i64 S ∧ m1 = []) (fun v m1 ⟨t, h1, h2, h3⟩ => ⟨by rw [h2, h1], h3⟩)
  have hl0 : addr < 0 ∨ qb * qc ≤ addr → -1 = lt ∧ 0 = lu := hl0
  have hl1 : ¬ addr < 0 → ¬ qb * qc ≤ addr → I.bin .quo .i64 addr qc = lt ∧ I.bin .rem .i64 addr qc = lu := hl1
  have hh : ¬ line < 0 → I.bin .rem .i64 line 4 = H := fun h => (hre _ _).trans (hh h)
  have hs : ¬ line < 0 → I.bin .rem .i64 line qd = S := fun h => (hre _ _).trans (hs h)
  clear hlnW hqo hre
  have hg0 : ∀ x : Int, I.cmp .geq x 0 = true → ¬ x < 0 := fun x h => by
    rw [hI] at h
    have := of_decide_eq_true (show decide (x ≥ 0) = true from h)
    omega
  have hg1 : ∀ x : Int, I.cmp .geq x 0 = false → x < 0 := fun x h => by
    rw [hI] at h
    have := of_decide_eq_false (show decide (x ≥ 0) = false from h)
    omega
  have hb0 : ∀ x : Int, I.cmp .lss x (I.bin .mul .i64 qb qc) = true → ¬ qb * qc ≤ x := fun x h => by
    rw [hbc, hI] at h
    have := of_decide_eq_true (show decide (x < qb * qc) = true from h)
    omega
  have hb1 : ∀ x : Int, I.cmp .lss x (I.bin .mul .i64 qb qc) = false → qb * qc ≤ x := fun x h => by
    rw [hbc, hI] at h
    have := of_decide_eq_false (show decide (x < qb * qc) = false from h)
    omega
  clear hbc
  cbv
  refine .join_next (fun ts m => ∃ h s : Int, h = H ∧ s = S ∧ ts = fr 154 [(1, i64 line), (2, i64 addr), (16, i64 h), (17, i64 s), (3, .one (.c (.g (.rows 1 B3)))), (4, .one (.c (.g (.rows 1 B4)))), (5, .one (.c (.g (.rows 1 B5)))), (6, i64 zm), (7, .one (.c (.ptr 0 (.lit 0) 12 0))), (15, .one (.c (.ptr 1 (.lit 0) 8 0)))] ∧ m = [.lit 12 [[.g (.int .i64 (.sym s1)), .g (.int .i64 (.sym s2)), .g (.int .i64 (.sym s3)), .g (.int .i64 (.sym s4)), .g (.int .i64 (.sym s5)), .g (.int .i64 (.sym s6)), .g (.int .i64 (.sym s7)), .g (.rows 1 l0), .g (.rows 1 W0), .g (.rows 1 K0), .g (.rows 1 A0), .g (.rows 1 V0)]], .lit 8 [cfg (.sym 4) (.sym qb) (.sym qc) (.sym qd) (.sym qe) (.sym qf) (.sym qg) (.g (.rows 1 L))]]) ?_ ?_
  · intro next2 hnx
    cbv
    refine .br (fun g => ?_) (fun g => ?_)
    · have e1 := hh (hg0 _ g)
      have e2 := hs (hg0 _ g)
      clear g hh hs hh0 hs0
      cbv
      refine .drawn [] ?_
      cbv
      repeat' first
        | (refine .both ?_ ?_ <;> cbv)
        | (refine .nz (by decide) ?_; cbv)
        | (refine .nz hqd0 ?_; cbv)
      all_goals exact hnx _ _ [0, 1] [] [1, 2, 3, 4, 5, 6, 7, 15, 16, 17] _ _ (by decide) rfl rfl rfl ⟨_, _, e1, e2, rfl, rfl⟩
    · have e1 := hh0 (hg1 _ g)
      have e2 := hs0 (hg1 _ g)
      clear g hh hs hh0 hs0
      cbv
      exact hnx _ _ [0, 1] [] [1, 2, 3, 4, 5, 6, 7, 15, 16, 17] _ _ (by decide) rfl rfl rfl ⟨_, _, e1, e2, rfl, rfl⟩
  rintro ts m ⟨h, s, rfl, rfl, rfl, rfl⟩
  clear hh hs hh0 hs0
  cbv
  refine .go [] [] [.bor 1] hlo rfl rfl rfl rfl rfl rfl ?_
  rintro v m1 ⟨rfl, rfl⟩
  clear hlo
  cbv
  apply br3
  case h1 =>
    intro g hq
    have g0 := hg0 _ g
    clear g
    cbv
    refine .join_next (fun ts m => ∃ t u : Int, t = lt ∧ u = lu ∧ ts = fr 154 [(1, i64 line), (2, i64 addr), (16, i64 h), (17, i64 s), (18, i64 lt), (19, i64 lu), (20, i64 t), (21, i64 u), (3, .one (.c (.g (.rows 1 B3)))), (4, .one (.c (.g (.rows 1 B4)))), (5, .one (.c (.g (.rows 1 B5)))), (6, i64 zm), (7, .one (.c (.ptr 0 (.lit 0) 12 0))), (15, .one (.c (.ptr 1 (.lit 0) 8 0)))] ∧ m = [.lit 12 [[.g (.int .i64 (.sym s1)), .g (.int .i64 (.sym s2)), .g (.int .i64 (.sym s3)), .g (.int .i64 (.sym s4)), .g (.int .i64 (.sym s5)), .g (.int .i64 (.sym s6)), .g (.int .i64 (.sym s7)), .g (.rows 1 l0), .g (.rows 1 W0), .g (.rows 1 K0), .g (.rows 1 A0), .g (.rows 1 V0)]], .lit 8 [cfg (.sym 4) (.sym qb) (.sym qc) (.sym qd) (.sym qe) (.sym qf) (.sym qg) (.g (.rows 1 L))]]) ?_ hq
    intro next2 hnx
    cbv
    refine .br (fun g => ?_) (fun g => ?_)
    · obtain ⟨e1, e2⟩ := hl1 g0 (hb0 _ g)
      clear g hl0 hl1
      cbv
      refine .drawn [] ?_
      cbv
      repeat' first
        | (refine .both ?_ ?_ <;> cbv)
        | (refine .nz hqc0 ?_; cbv)
      all_goals exact hnx _ _ [0, 1] [] [1, 2, 3, 4, 5, 6, 7, 15, 16, 17, 18, 19, 20, 21] _ _ (by decide) rfl rfl rfl ⟨_, _, e1, e2, rfl, rfl⟩
    · obtain ⟨e1, e2⟩ := hl0 (.inr (hb1 _ g))
      clear g hl0 hl1
      cbv
      exact hnx _ _ [0, 1] [] [1, 2, 3, 4, 5, 6, 7, 15, 16, 17, 18, 19, 20, 21] _ _ (by decide) rfl rfl rfl ⟨_, _, e1, e2, rfl, rfl⟩
  case h2 =>
    intro g hq
    obtain ⟨e1, e2⟩ := hl0 (.inl (hg1 _ g))
    clear g hl0 hl1
    cbv
    refine .join_next (fun ts m => ∃ t u : Int, t = lt ∧ u = lu ∧ ts = fr 154 [(1, i64 line), (2, i64 addr), (16, i64 h), (17, i64 s), (18, i64 lt), (19, i64 lu), (20, i64 t), (21, i64 u), (3, .one (.c (.g (.rows 1 B3)))), (4, .one (.c (.g (.rows 1 B4)))), (5, .one (.c (.g (.rows 1 B5)))), (6, i64 zm), (7, .one (.c (.ptr 0 (.lit 0) 12 0))), (15, .one (.c (.ptr 1 (.lit 0) 8 0)))] ∧ m = [.lit 12 [[.g (.int .i64 (.sym s1)), .g (.int .i64 (.sym s2)), .g (.int .i64 (.sym s3)), .g (.int .i64 (.sym s4)), .g (.int .i64 (.sym s5)), .g (.int .i64 (.sym s6)), .g (.int .i64 (.sym s7)), .g (.rows 1 l0), .g (.rows 1 W0), .g (.rows 1 K0), .g (.rows 1 A0), .g (.rows 1 V0)]], .lit 8 [cfg (.sym 4) (.sym qb) (.sym qc) (.sym qd) (.sym qe) (.sym qf) (.sym qg) (.g (.rows 1 L))]]) ?_ hq
    intro next2 hnx
    cbv
    exact hnx _ _ [0, 1] [] [1, 2, 3, 4, 5, 6, 7, 15, 16, 17, 18, 19, 20, 21] _ _ (by decide) rfl rfl rfl ⟨_, _, e1, e2, rfl, rfl⟩
  rintro ts m ⟨t, u, rfl, rfl, rfl, rfl⟩
  clear hl0 hl1 hg0 hg1 hb0 hb1
  have hwo := hwo line
  have hro := hro line
  have hwl := hwl line
  generalize wA line = wa at hwo hro hwl
  cbv
  refine .drawn [] ?_
  cbv
  refine .go [] [] [.bor 1] hho rfl rfl rfl rfl rfl rfl ?_
  rintro v m1 ⟨rfl, rfl⟩
  cbv
  refine br_f (hne _) ?_
  cbv
  refine .go [] [] [.bor 1] hso rfl rfl rfl rfl rfl rfl ?_
  rintro v m1 ⟨rfl, rfl⟩
  cbv
  refine br_f (hne _) ?_
  cbv
  refine br_f (hne _) ?_
  cbv
  refine br_f (hne _) ?_
  cbv
  refine .go [] [] [.bor 1] had rfl rfl rfl rfl rfl rfl ?_
  rintro v m1 ⟨rfl, rfl⟩
  cbv
  refine br_f (hne _) ?_
  clear hho hso had
  cbv
  repeat' first
    | (refine .both ?_ ?_ <;> cbv)
    | (refine .go [] [] [.bor 1] hwo rfl rfl rfl rfl rfl rfl ?_; rintro v m1 ⟨Wa, hWa, rfl, rfl⟩; cbv)
    | (refine .go [] [] [.bor 1] hro rfl rfl rfl rfl rfl rfl ?_; rintro v m1 ⟨Wb, hWb, rfl, rfl⟩; cbv)
  all_goals
    have hsm := same hp Wa Wb wa wa hWa hWb (by rw [hWa.len]; omega)
    have hsm := hsm.mono (R' := fun v m1 => v = boo true ∧ m1 = []) (fun v m1 ⟨t, h1, h2, h3⟩ => ⟨by rw [h2, h1]; simp, h3⟩)
    clear hwo hro
    refine .go [] [] [.bor 1, .bor 1] hsm rfl rfl rfl rfl rfl rfl ?_
    rintro v m1 ⟨rfl, rfl⟩
    cbv
    refine br_f (hnt true rfl) ?_
    clear hsm hWa hWb
    cbv
    refine .go [] [] [] hpr rfl rfl rfl rfl rfl rfl ?_
    rintro v m1 ⟨L0, L1, L2, L3, o0, o1, o2, o3, h0', h1', h2', h3', rfl, rfl⟩
    clear hpr
    have h0l := h0'.2.1
    cbv
    refine .join_next (fun ts m => ∃ (LX : List (List G)) (ox : List OP), isO LX ox ∧ ox.length ≤ 54 ∧ ts = fr 154 [(6, i64 zm), (15, .one (.c (.ptr 0 (.lit 0) 8 0))), (22, .one (.c (.row 1 1 (some (.lit 4)))))] ∧ m = [.lit 8 [cfg (.sym 4) (.sym qb) (.sym qc) (.sym qd) (.sym qe) (.sym qf) (.sym qg) (.g (.rows 1 L))], .lit 1 [[.row 2 3 none], [.row 3 3 none], [.row 4 3 none], [.row 5 3 none]], .sym 3 LX, .sym 3 L1, .sym 3 L2, .sym 3 L3]) ?_ ?_
    · intro next2 hnx
      cbv
      refine .br (fun g => ?_) (fun g => ?_)
      · clear g
        cbv
        refine .drawn [2, 3] ?_
        cbv
        repeat' first
          | (refine .both ?_ ?_ <;> cbv)
          | (refine .go [] [] [.bor 1, .bor 1, .bor 1] hpo rfl rfl rfl rfl rfl rfl ?_; rintro v m1 ⟨OL, ops, hO, hol, -, rfl, rfl⟩; cbv)
        all_goals
          have h9 : isO (I.app L0 OL) (o0 ++ ops) ∧ (o0 ++ ops).length ≤ 54 ∧ I.len (I.app L0 OL) ≤ 54 := by
            have h1 : isO (I.app L0 OL) (o0 ++ ops) := by rw [hI]; exact h0'.1.app hO
            have h2 : (o0 ++ ops).length ≤ 54 := by simp; omega
            refine ⟨h1, h2, ?_⟩
            have h3 := h1.len
            have h4 : I.len (I.app L0 OL) = (I.app L0 OL).length := by rw [hI]; rfl
            omega
          obtain ⟨h91, h92, h93⟩ := h9
          refine .most (show I.len (I.app L0 OL) * 24 ≤ 140737488355328 from by omega) (show I.len (I.app L0 OL) ≤ 140737488355328 from by omega) ?_
          cbv
          exact hnx _ _ [1, 2, 8, 4, 5, 6] [] [6, 15, 22] _ _ (by decide) rfl rfl rfl ⟨_, _, h91, h92, rfl, rfl⟩
      · clear g
        cbv
        exact hnx _ _ [1, 2, 3, 4, 5, 6] [] [6, 15, 22] _ _ (by decide) rfl rfl rfl ⟨L0, o0, h0'.1, by omega, rfl, rfl⟩
    rintro ts m ⟨LX, ox, hX, hXl, rfl, rfl⟩
    clear hpo h0l
    have h1l := h1'.2.1
    have h2l := h2'.2.1
    have h3l := h3'.2.1
    have hpl1 := hplan [[.rows 3 LX], [.rows 3 L1], [.rows 3 L2], [.rows 3 L3]] [ox, o1, o2, o3] (isPR.isPs (isPR_cons hX (isPR_cons h1'.1 (isPR_cons h2'.1 (isPR_cons h3'.1 isPR_nil))))) (by simp) (by simp <;> omega)
    have hrp1 := hrop [[.rows 3 LX], [.rows 3 L1], [.rows 3 L2], [.rows 3 L3]] [ox, o1, o2, o3] (isPR_cons hX (isPR_cons h1'.1 (isPR_cons h2'.1 (isPR_cons h3'.1 isPR_nil)))) (by simp) (by simp <;> omega)
    generalize okP [ox, o1, o2, o3] = k1 at hpl1 hrp1
    have hpl2 := hplan [[.rows 3 L1], [.rows 3 L2], [.rows 3 L3]] [o1, o2, o3] (isPR.isPs (isPR_cons h1'.1 (isPR_cons h2'.1 (isPR_cons h3'.1 isPR_nil)))) (by simp) (by simp <;> omega)
    have hrp2 := hrop [[.rows 3 L1], [.rows 3 L2], [.rows 3 L3]] [o1, o2, o3] (isPR_cons h1'.1 (isPR_cons h2'.1 (isPR_cons h3'.1 isPR_nil))) (by simp) (by simp <;> omega)
    generalize okP [o1, o2, o3] = k2 at hpl2 hrp2
    clear hplan hrop
    cbv
    refine .join_next (fun ts m => ∃ x : A, (x = .one (.c (.row 1 1 (some (.lit 4)))) ∨ x = .one (.c (.sl 1 (.lit 1) 1 (.lit 3) (some (.lit 3))))) ∧ ts = fr 154 [(15, .one (.c (.ptr 0 (.lit 0) 8 0))), (22, x)] ∧ m = [.lit 8 [cfg (.sym 4) (.sym qb) (.sym qc) (.sym qd) (.sym qe) (.sym qf) (.sym qg) (.g (.rows 1 L))], .lit 1 [[.row 2 3 none], [.row 3 3 none], [.row 4 3 none], [.row 5 3 none]], .sym 3 LX, .sym 3 L1, .sym 3 L2, .sym 3 L3]) ?_ ?_
    · intro next2 hnx
      cbv
      refine .br (fun g => ?_) (fun g => ?_)
      · clear g
        cbv
        exact hnx _ _ [0, 1, 2, 3, 4, 5] [] [15, 22] _ _ (by decide) rfl rfl rfl ⟨_, .inr rfl, rfl, rfl⟩
      · clear g
        cbv
        exact hnx _ _ [0, 1, 2, 3, 4, 5] [] [15, 22] _ _ (by decide) rfl rfl rfl ⟨_, .inl rfl, rfl, rfl⟩
    have hfin : ∀ (k : Bool) (e : Int) (t : Bool), e = (if k = true then 0 else 1) → t = k → I.beq (I.cmp .eql e 0) t = true := fun k e t h1 h2 => by
      rw [h1, h2, hI]
      cases k <;> rfl
    rintro ts m ⟨x, (rfl | rfl), rfl, rfl⟩
    · cbv
      refine .drawn [] ?_
      cbv
      repeat' first
        | (refine .both ?_ ?_ <;> cbv)
        | (refine .goR [0, 1] [2, 3, 4, 5] [] [.keep, .bor 1] hpl1 rfl rfl rfl (fun v m1 ⟨e, h1, h2, h3⟩ => by rw [h2]; rfl) ?_; rintro v m1 ⟨e, he, rfl, rfl⟩; cbv)
        | (refine .goR [0, 1] [2, 3, 4, 5] [] [.bor 1, .bor 1] hrp1 rfl rfl rfl (fun v m1 ⟨e, h1, h2, h3⟩ => by rw [h2]; rfl) ?_; rintro v m1 ⟨t, ht, rfl, rfl⟩; cbv)
        | (refine br_t (hfin _ _ _ he ht) ?_; cbv)
        | (refine .go [] [] [] (wakes hp) rfl rfl rfl rfl rfl rfl ?_; rintro v m1 ⟨rfl, rfl⟩; cbv)
      all_goals exact hP _ _ [] [] _ _ .nil rfl rfl rfl rfl rfl ⟨_, rfl, rfl⟩
    · cbv
      refine .drawn [] ?_
      cbv
      repeat' first
        | (refine .both ?_ ?_ <;> cbv)
        | (refine .goR [0, 1] [2, 3, 4, 5] [] [.keep, .bor 1] hpl2 rfl rfl rfl (fun v m1 ⟨e, h1, h2, h3⟩ => by rw [h2]; rfl) ?_; rintro v m1 ⟨e, he, rfl, rfl⟩; cbv)
        | (refine .goR [0, 1] [2, 3, 4, 5] [] [.bor 1, .bor 1] hrp2 rfl rfl rfl (fun v m1 ⟨e, h1, h2, h3⟩ => by rw [h2]; rfl) ?_; rintro v m1 ⟨t, ht, rfl, rfl⟩; cbv)
        | (refine br_t (hfin _ _ _ he ht) ?_; cbv)
        | (refine .go [] [] [] (wakes hp) rfl rfl rfl rfl rfl rfl ?_; rintro v m1 ⟨rfl, rfl⟩; cbv)
      all_goals exact hP _ _ [] [] _ _ .nil rfl rfl rfl rfl rfl ⟨_, rfl, rfl⟩
end
end Go.Proofs.Ytdfbpdbfiffpbaa.E
