/- The loop of Unpack: what it does, all of it. -/
import Derived.Test.YtccfcenhpmdemaaUR
namespace Go.Proofs.Ytccfcenhpmdemaa.E
open Go Go.RowKit
set_option linter.unusedVariables false
set_option maxRecDepth 100000

def rfAssign : Code → Code
  | .rangeFunc _ _ x _ => x
  | _ => .skip
theorem GRep.part {F F' : Nat → Prop} {w w' : World} {L : List (List G)} {A : Nat} {off c m : Nat} (h : GRep F w (.rows 1 L) (.slice (some (at_ A off)) L.length c)) (hm : m + 8 ≤ L.length) (hF : ∀ j, F j → F' j) (hw : ∀ j, F j → w'.heap[j]? = w.heap[j]?) :
    GRep F' w' (.rows 1 ((L.take (m + 8)).drop m)) (.slice (some (at_ A (off + m))) 8 8) := by
  have h' := h
  generalize hv : Value.slice (some (at_ A off)) L.length c = v at h'
  cases h' with
  | rows u g1 g2 g3 =>
  rename_i A_ c'
  cases hv
  have h8 : ((L.take (m + 8)).drop m).length = 8 := by simp; omega
  have h9 := g2.ext (p := m) (q := m + 8) (c := c) hm g1
  rw [if_neg (by omega)] at h9
  have h10 : (some (at_ A off)).map (·.add (m * 1)) = some (at_ A (off + m)) := by simp [at_add]
  rw [h10] at h9
  have := GRep.rows (F := F') (w := w') (c := 8) (fun i j => u (m + i) j) (by omega) (h9.step hF hw) (fun i r j x hi hj => GRep.step hF hw (g3 _ r j x (ext_get hi).2 hj))
  rw [h8] at this
  exact this
theorem isB.part {L : List (List G)} {bs : List (BitVec 8)} (h : isB L bs) (m : Nat) : isB ((L.take (m + 8)).drop m) ((bs.take (m + 8)).drop m) := by
  unfold isB at h ⊢
  rw [h]
  simp [nrow]
theorem wordsAt_len (K : Nat) (bs : List (BitVec 8)) : (wordsAt K bs).length = K := by simp [wordsAt]
set_option maxHeartbeats 1000000 in
theorem unpack_loop {P : Program} (hp : P = Try.prog) (L : List (List G)) (bs : List (BitVec 8)) (K : Nat) (hL : isB L bs) (hlen : bs.length = 8 * K) (hK : K ≤ 1000) {ts : List A} {m : Mem} {bp b1 b2 : Nat} {k f t i l p s : Int} {b : Bool} (htl : ts.length = 100)
    (h76 : ts[76]? = some (.one (.c (.fn 47 [(b1, 1, 0), (b2, 1, 0)])))) (h6 : ts[6]? = some (.one (.c (.ptr bp (.lit 0) 9 0)))) (hmp : m[bp]? = some (.lit 9 [pkC k f t i l p s b (.g .nil)]))
    (hm1 : m[b1]? = some (.lit 1 [[.g (.rows 1 L)]])) (hm2 : m[b2]? = some (.lit 1 [[.g (.int .i64 (.lit 8))]])) (hne1 : bp ≠ b1) (hne2 : bp ≠ b2) :
    RSpec P (rfOf P 28) ts m (fun ts' m' => ts' = ts ∧ m' = m.set bp (.lit 9 [pkC k f t i l p s b (.g (.rows 1 (nrow .i64 (wordsAt K bs))))])) := by
  intro E w a Q hA hQ
  have hs := hA.sat
  have hLl : L.length = 8 * K := by rw [hL.len, hlen]
  obtain ⟨ap, op, eρ, hap⟩ : ∃ ap op, E.ρ bp = some (ap, op) ∧ ap < w.heap.size := by
    rcases hs.rep bp _ hmp trivial with ⟨_, h⟩ | ⟨a_, base, e, _, h, _⟩
    · simp [Blk.rows] at h
    · exact ⟨a_, base, e, h⟩
  obtain ⟨a1, o1, u1, eρ1, ha1, hc1, hu1⟩ : ∃ a1 o1 u1, E.ρ b1 = some (a1, o1) ∧ a1 < w.heap.size ∧ w.cell? (at_ a1 (o1 + (0 * 1 + 0))) = some u1 ∧ GRep E.F w (.rows 1 L) u1 := by
    rcases hs.rep b1 _ hm1 trivial with ⟨_, h⟩ | ⟨a_, base, e, _, h, h3⟩
    · simp [Blk.rows] at h
    · obtain ⟨u, q1, q2⟩ := (h3 0 _ rfl).2 0 _ rfl
      exact ⟨a_, base, u, e, h, q1, q2⟩
  obtain ⟨a2, o2, eρ2, ha2, hc2⟩ : ∃ a2 o2, E.ρ b2 = some (a2, o2) ∧ a2 < w.heap.size ∧ w.cell? (at_ a2 (o2 + (0 * 1 + 0))) = some (.int .i64 8) := by
    rcases hs.rep b2 _ hm2 trivial with ⟨_, h⟩ | ⟨a_, base, e, _, h, h3⟩
    · simp [Blk.rows] at h
    · obtain ⟨u, q1, q2⟩ := (h3 0 _ rfl).2 0 _ rfl
      have : u = .int .i64 8 := by
        have q2 : GRep E.F w (.int .i64 (.lit 8)) u := q2
        cases q2
        rfl
      subst this
      exact ⟨a_, base, e, h, q1⟩
  have hn1 : a1 ≠ ap := fun e => hne1 (hs.inj bp b1 _ _ ap op o1 hmp hm1 trivial trivial eρ (e ▸ eρ1))
  have hn2 : a2 ≠ ap := fun e => hne2 (hs.inj bp b2 _ _ ap op o2 hmp hm2 trivial trivial eρ (e ▸ eρ2))
  obtain ⟨Ao, c, rfl, hcl⟩ : ∃ Ao c, u1 = .slice Ao L.length c ∧ 8 * K ≤ c := by
    cases hu1 with
    | rows u g1 g2 g3 =>
      rename_i Ao c
      exact ⟨Ao, c, rfl, hLl ▸ g1⟩
  obtain ⟨A0, off, hA0⟩ : ∃ A0 off, 0 < K → Ao = some (at_ A0 off) := by
    have hu1' := hu1
    generalize hv : Value.slice Ao L.length c = v at hu1'
    cases hu1' with
    | rows u g1 g2 g3 =>
      cases hv
      by_cases h0 : 0 < K
      · obtain ⟨a_, off, e, _⟩ := g2.some_ (fun e => by rw [e] at hLl; simp at hLl; omega)
        exact ⟨a_, off, fun _ => e⟩
      · exact ⟨0, 0, fun h => absurd h h0⟩
  obtain ⟨us, e76, hus⟩ : ∃ us : Array Value, a.tmps.getD 76 undef = .func (.func 47) #[] us ∧ us = #[.pointer (some (at_ a1 (o1 + (0 * 1 + 0)))), .pointer (some (at_ a2 (o2 + (0 * 1 + 0))))] := by
    rcases hA.ts.2 76 _ h76 with h | ⟨us, q1, q2, q3⟩
    · cases h
    · refine ⟨us, q1, ?_⟩
      obtain ⟨_, x1, y1, r1, r2⟩ := q3 0 b1 1 0 rfl
      obtain ⟨_, x2, y2, r3, r4⟩ := q3 1 b2 1 0 rfl
      rw [eρ1] at r1; cases r1
      rw [eρ2] at r3; cases r3
      apply Array.ext_getElem?
      intro j
      match j with
      | 0 => rw [r2]; rfl
      | 1 => rw [r4]; rfl
      | n + 2 => rw [Array.getElem?_eq_none (by rw [q2]; simp), Array.getElem?_eq_none (by simp)]
  subst hus
  rw [hLl] at hc1
  have e6 : a.tmps.getD 6 undef = .pointer (some (at_ ap (op + (0 * 9 + 0)))) := by
    rcases hA.ts.2 6 _ h6 with h | ⟨_, x, y, q1, q2⟩
    · cases h
    · rw [eρ] at q1; cases q1; exact q2
  have hsz : a.tmps.size = 100 := by rw [hA.ts.1, htl]
  have hcode : rfOf P 28 = .rangeFunc (.tmp 76) #[77] (rfAssign (rfOf P 28)) (rfBody (rfOf P 28)) := by rw [hp]; kernel_rfl
  obtain ⟨Kp, hKp⟩ : ∃ Kp : World → World → Prop, Kp = fun W W' => ∀ x : Addr, x.block = a1 ∨ x.block = a2 → W'.cell? x = W.cell? x := ⟨_, rfl⟩
  rw [hcode]
  refine (wpIn_wide (n := 5)).1 ?_
  refine wpIn_rangeFunc_ownG (n := 5) rfl (by decide) (gf := 47) (lb := #[.pointer (some (at_ a1 (o1 + (0 * 1 + 0)))), .pointer (some (at_ a2 (o2 + (0 * 1 + 0))))]) e76 trivial (by rw [hp]; exact enters_of Try.func47 (by kernel_rfl) rfl)
    (encs := fun x : Nat => #[.slice (some ⟨A0, off + 8 * min x (K - 1), none⟩) 8 8]) (Kp := Kp) (S := fun ys => ys = List.range K) (Sp := fun _ => True) (N := K) (w0 := w) ?seq ?kt ?kb (Below.refl _ _) (fun _ => rfl)
    (fun pre W => URel w E.F ap op k f t i l p s b (pre.map (wordAt K bs)) W) (fun _ _ _ => False) (URel.own _) (fun _ _ _ _ _ hs _ _ => hs) (URel.start hs hmp eρ)
    (fun x => { tmps := (a.tmps.setIfInBounds 77 (.slice (some ⟨A0, off + 8 * min x (K - 1), none⟩) 8 8)).setIfInBounds 7 (.slice (some ⟨A0, off + 8 * min x (K - 1), none⟩) 8 8), defers := [] }) ?assign ?body ?done ?stop
  case seq =>
    intro l0 J Jx W hW hJ hJx hY h0
    rw [hp] at hY ⊢
    exact chunk1_in 4 l0 a1 _ a2 _ A0 off K c Ao hA0 hcl (by omega) Kp (fun W W' h => by rw [hKp] at h; exact ⟨h _ (.inl rfl), h _ (.inr rfl)⟩) J Jx hY W hJ ((hW.cell (p := at_ a1 (o1 + (0 * 1 + 0))) ha1).trans hc1) ((hW.cell (p := at_ a2 (o2 + (0 * 1 + 0))) ha2).trans hc2) h0
  case kt =>
    intro A B C h1 h2
    rw [hKp] at h1 h2 ⊢
    exact fun x hx => (h2 x hx).trans (h1 x hx)
  case kb =>
    intro W l0 o o' hl ho _ _
    rw [hKp]
    exact fun x hx => World.cell?_of_block (World.putObj_heap_other (fun e => by rw [e] at hx; omega))
  case assign =>
    intro l0 x W K0 hK0
    have e1 : rfAssign (rfOf P 28) = .region 6 #[{ (bodyOps (.block 0 (rfAssign (rfOf P 28))))[0]! with dst := some 7, op := .assign (.tmp 77), guard := none }] false := by rw [hp]; kernel_rfl
    rw [e1]
    generalize (bodyOps (.block 0 (rfAssign (rfOf P 28))))[0]! = o0
    refine wpIn_region_list (wpListIn_plain rfl fun K9 hK' => ?_)
    unfold Oper.wpIn
    refine ⟨fun _ _ => trivial, ?_⟩
    rw [show (Fence.wide.inRound l0).round = some l0 from rfl, Oper.semAt_some l0 _ _ (fun c hc => by cases hc)]
    refine hK' _ _ ?_
    have e2 : ∀ v : Value, (a.tmps.setIfInBounds 77 v).getD 77 undef = v := fun v => by simp [Array.getD_eq_getD_getElem?, hsz]
    generalize Value.slice (some ⟨A0, off + 8 * min x (K - 1), none⟩) 8 8 = v at hK0 ⊢
    generalize hT : Array.foldl _ a.tmps (#[77].zip #[v]) = T
    have hT2 : T = a.tmps.setIfInBounds 77 v := by rw [← hT]; simp
    subst hT2
    show K0 { tmps := (a.tmps.setIfInBounds 77 v).setIfInBounds 7 ((a.tmps.setIfInBounds 77 v).getD 77 undef), defers := [] } W
    rw [e2]
    exact hK0
  case body =>
    intro l0 pre x W hU hlt
    obtain ⟨Er, D, hD, hs2, h0, h1, h3, hF⟩ := hU.ex
    have hF2 : ∀ j, E.F j → W.heap[j]? = w.heap[j]? := fun j hj => hU.old j (hs.old j (.inl hj)) (fun e => by subst e; exact (hs.dis bp _ _ op hmp trivial eρ).1 hj)
    have hm8 : 8 * min x (K - 1) + 8 ≤ L.length := by omega
    rw [hA0 (by omega)] at hu1
    have hv := hu1.part hm8 hF hF2
    have hC := hL.part (8 * min x (K - 1))
    have hw : wordAt K bs x = numB ((bs.take (8 * min x (K - 1) + 8)).drop (8 * min x (K - 1))) := rfl
    generalize hmm : 8 * min x (K - 1) = m8 at hv hC hw hm8
    generalize hva : Value.slice (some ⟨A0, off + m8, none⟩) 8 8 = v at *
    have hv : GRep Er.F W (.rows 1 ((L.take (m8 + 8)).drop m8)) v := by rw [← hva]; exact hv
    generalize hCC : (L.take (m8 + 8)).drop m8 = CC at hv hC
    have hcl8 : ((bs.take (m8 + 8)).drop m8).length ≤ 1000000000 := by simp; omega
    generalize hbb : (bs.take (m8 + 8)).drop m8 = cs at hC hw hcl8
    have hAr : At Er (mr k f t i l p s b D) W (fr 100 [(6, .one (.c (.ptr 0 (.lit 0) 9 0))), (7, .one (.c (.g (.rows 1 CC))))]) { tmps := (a.tmps.setIfInBounds 77 v).setIfInBounds 7 v, defers := [] } := by
      refine ⟨hs2, ⟨by simp [fr, hsz], fun q y hq => ?_⟩, .nil rfl⟩
      show ARep Er _ W y (((a.tmps.setIfInBounds 77 v).setIfInBounds 7 v).getD q undef)
      simp only [fr, List.foldl_cons, List.foldl_nil] at hq
      by_cases q7 : q = 7
      · subst q7
        rw [List.getElem?_set_self (by simp)] at hq
        cases hq
        rw [show ((a.tmps.setIfInBounds 77 v).setIfInBounds 7 v).getD 7 undef = v by simp [Array.getD_eq_getD_getElem?, hsz]]
        exact .inr hv
      · rw [List.getElem?_set_ne (fun e => q7 e.symm)] at hq
        by_cases q6 : q = 6
        · subst q6
          rw [List.getElem?_set_self (by simp)] at hq
          cases hq
          rw [show ((a.tmps.setIfInBounds 77 v).setIfInBounds 7 v).getD 6 undef = a.tmps.getD 6 undef by simp [Array.getD_eq_getD_getElem?, Array.getElem?_setIfInBounds_ne], e6]
          exact .inr ⟨by show 0 < 2; decide, ap, op, h0, rfl⟩
        · rw [List.getElem?_set_ne (fun e => q6 e.symm), List.getElem?_replicate] at hq
          split at hq
          · cases hq; exact any_rep _
          · cases hq
    refine body_run hp k f t i l p s b D (pre.map (wordAt K bs)) hD (by rw [List.length_map]; omega) CC cs hC hcl8 (fun ⟨a, w, h⟩ => h) (fun c a w h => h) hAr rfl (fun E' m' W' a' id D' q1 q2 q3 q4 q5 => ?_)
    have foot : ∀ j, Foot (fun _ => True) Er (mr k f t i l p s b D) j → j = ap ∨ (w.heap.size ≤ j ∧ ∃ o, W.heap[j]? = some o ∧ o.isCells = true) := by
      rintro j ⟨id, blk, x, r1, _, _, r4⟩
      match id, r1 with
      | 0, _ => rw [h0] at r4; cases r4; exact .inl rfl
      | 1, _ =>
        refine .inr ⟨h1 _ _ r4, ?_⟩
        cases hpre : pre with
        | nil => rw [hpre] at h3; rw [h3 rfl] at r4; cases r4
        | cons y pre' =>
          rcases hs2.rep 1 _ rfl trivial with ⟨g1, _⟩ | ⟨a3, base, g1, g2, g3, g4⟩
          · rw [r4] at g1; cases g1
          · rw [r4] at g1; cases g1
            rw [hpre] at hD
            have : D[0]? = some [.int .i64 (.sym (wordAt K bs y))] := by rw [hD.get]; rfl
            obtain ⟨u, g5, _⟩ := (g4 0 [.g (.int .i64 (.sym (wordAt K bs y)))] (by show (D.map fun r => r.map C.g)[0]? = _; rw [List.getElem?_map, this]; rfl)).2 0 _ rfl
            exact cells_of_cell g5
      | n + 2, r1 => simp at r1
    refine ⟨⟨q5.size, fun j o hj ho hco => ?_⟩, ?_, ?_⟩
    · refine (q5.block j (Array.getElem?_eq_some_iff.1 ho).1 (fun hf => ?_)).trans ho
      rcases foot j hf with rfl | ⟨_, o', ho', hc'⟩
      · omega
      · rw [ho] at ho'; cases ho'; rw [hco] at hc'; cases hc'
    · rw [hKp]
      intro y hy
      refine World.cell?_of_block (q5.block y.block ?_ (fun hf => ?_))
      · rcases hy with h | h <;> rw [h] <;> exact Nat.lt_of_lt_of_le (by assumption) hU.size
      · rcases foot _ hf with h | ⟨h, _⟩
        · rcases hy with h' | h' <;> rw [h'] at h
          · exact hn1 h
          · exact hn2 h
        · rcases hy with h' | h' <;> rw [h'] at h <;> omega
    · have : (pre ++ [x]).map (wordAt K bs) = pre.map (wordAt K bs) ++ [numB cs] := by rw [List.map_append, ← hw]; rfl
      show URel w E.F ap op k f t i l p s b ((pre ++ [x]).map (wordAt K bs)) W'
      rw [this]
      exact hU.step hap hs2 h0 h1 hF (by simp) q1 q2 q3 q4 q5
  case done =>
    rintro D ys W hD rfl hU hDd
    obtain ⟨E2, h1, h2⟩ := URel.fin hA hmp eρ hU hD hDd
    refine hQ E2 _ W ts _ ⟨rfl, rfl⟩ h1 h2 (fun D' hD' => ?_)
    rcases List.mem_cons.1 hD' with h | h
    · cases h; exact .inr hD
    · exact .inl h
  case stop =>
    rintro D c pre W _ _ h _
    exact h.elim
end Go.Proofs.Ytccfcenhpmdemaa.E
