/- Maps of numbers, copies, bytes as a text. -/
import Derived.Test.YtccfcenhpmdemaaE10
import Derived.MapKept
import Derived.ChangeKeysEq
import Derived.Laws.IdiomCopy
import Derived.Laws.IdiomStrings
import Derived.Lib.AppendZeros
namespace Go.Proofs.Ytccfcenhpmdemaa.E
open Go
set_option linter.unusedVariables false

section
variable {P : Program} {I : Ints} {p : Nat} {E : Env} {m : Mem} {w w' : World} {ts : List A} {a : Act}
variable {Wt : Nat → Prop}
variable {wr : Option (List Nat × Nat)} {er : Bool} {o : Oper} {k : A → Mem → Tree} {Q : Exit → Act → World → Prop}
theorem l_dead (h : Holds P I p (evOp I er wr .dead ts m k)) : LRes P I p E m w wr a o k Q := (holds_fail h).elim
/-! ### What is stored may be frozen -/
def Env.fz (E : Env) (b : Nat) : Env := ⟨fun k => E.F k ∨ ∃ x, E.ρ b = some (k, x), E.B, E.ρ⟩
theorem fz_grow (hs : Sat E m w) {b : Nat} {blk : Blk} (hb : m[b]? = some blk) (hl : blk.live) : Grow Wt E m w (E.fz b) (m.set b .dead) w ∧ Sat (E.fz b) (m.set b .dead) w := by
  have old : ∀ (i : Nat) (bi : Blk), (m.set b .dead)[i]? = some bi → bi.live → i ≠ b ∧ m[i]? = some bi := fun i bi hi li => by
    rcases get_set hi with ⟨_, rfl, _⟩ | ⟨h1, h⟩
    · exact li.elim
    · exact ⟨h1, h⟩
  have step : Step E m w (E.fz b) (m.set b .dead) w :=
    { F := fun _ h => .inl h, B := fun _ h => h, ρ := fun _ _ => rfl, len := by simp, shape := fun id blk' hid h1 h2 => ⟨blk', (old _ _ h1 h2).2, h2, rfl, rfl⟩, frz := fun _ _ => rfl, stays := Stays.refl w }
  refine ⟨{ toStep := step, B' := fun _ h => h, os := rfl, tape := rfl, output := rfl, size := Nat.le_refl _, block := fun _ _ _ => rfl, newF := fun k hk => hk.imp id (fun ⟨x, hx⟩ => .inr ⟨b, blk, x, hb, hl, trivial, hx⟩), newρ := fun id a_ x blk1 hid h1 _ _ => ?_ }, ?_⟩
  · rw [List.getElem?_eq_none (by simpa using hid)] at h1; cases h1
  · refine ⟨fun id blk' h1 l1 => ?_, fun i j bi bj c x y hi hj li lj => hs.inj i j bi bj c x y (old _ _ hi li).2 (old _ _ hj lj).2 li lj, fun i bi c x hi li e => ?_, fun k hk => ?_, fun id ag l h => ?_⟩
    · rcases hs.rep id blk' (old _ _ h1 l1).2 l1 with h | ⟨a_, base, e, g1, g2, g3⟩
      · exact .inl h
      · exact .inr ⟨a_, base, e, g1, g2, fun i row hi => ⟨(g3 i row hi).1, fun j x hj => let ⟨u, q1, q2⟩ := (g3 i row hi).2 j x hj; ⟨u, q1, q2.step step⟩⟩⟩
    · obtain ⟨hib, hi⟩ := old _ _ hi li
      obtain ⟨d1, d2⟩ := hs.dis i bi c x hi li e
      exact ⟨fun h => h.elim d1 (fun ⟨y, hy⟩ => hib (hs.inj i b bi blk c x y hi hb li hl e hy)), d2⟩
    · rcases hk with (hk | ⟨x, hx⟩) | hk
      · exact hs.old k (.inl hk)
      · exact blk_lt hs hb hl hx
      · exact hs.old k (.inr hk)
    · obtain ⟨a_, e, hlt, hm⟩ := hs.maps id ag l (old id _ h trivial).2
      exact ⟨a_, e, hlt, hm.step (fun k hk => .inl hk) (fun _ _ => rfl) rfl⟩
theorem rowsOf_live {b es : Nat} {c : Option NN} {l : List (List G)} (h : rowsOf I es (.row b es c) m = some l) : ∃ blk, m[b]? = some blk ∧ blk.live := by
  obtain ⟨l0, h0⟩ := rowsOf_some h
  simp only [rowsOf0] at h0
  split at h0
  · rename_i hm
    exact ⟨_, hm, trivial⟩
  · rename_i hm
    exact ⟨_, hm, trivial⟩
  · cases h0
theorem frzC_inv (hI : I = ints) : ∀ (cs : List C) {E : Env} {m : Mem} {us : List Value} {k : List G → Mem → Tree}, At E m w ts a → (∀ (i : Nat) (x : C), cs[i]? = some x → ∃ u, us[i]? = some u ∧ CRep E m w x u) → Holds P I p (frzC I cs m k) →
    ∃ gs E' m', At E' m' w ts a ∧ Grow Wt E m w E' m' w ∧ gs.length = cs.length ∧ (∀ (i : Nat) (g : G), gs[i]? = some g → ∃ u, us[i]? = some u ∧ GRep E'.F w g u) ∧ Holds P I p (k gs m')
  | [], E, m, us, k, hA, hr, h => ⟨[], E, m, hA, Grow.refl _ _ _ _, rfl, fun i g hi => by simp at hi, h⟩
  | .g x :: r, E, m, us, k, hA, hr, h => by
    simp only [frzC] at h
    obtain ⟨u, hu, hx⟩ := hr 0 _ rfl
    obtain ⟨gs, E', m', h1, h2, h3, h4, h5⟩ := frzC_inv hI r (us := us.tail) hA (fun i y hi => by
      obtain ⟨v, q1, q2⟩ := hr (i + 1) y (by simpa using hi)
      exact ⟨v, by rw [List.getElem?_tail]; exact q1, q2⟩) h
    refine ⟨x :: gs, E', m', h1, h2, by simp [h3], fun i g hi => ?_, h5⟩
    cases i with
    | zero => simp at hi; subst hi; exact ⟨u, hu, GRep.step h2.F (fun k hk => h2.frz k (.inl hk)) hx⟩
    | succ i =>
      obtain ⟨v, q1, q2⟩ := h4 i g (by simpa using hi)
      exact ⟨v, by rw [← q1, List.getElem?_tail], q2⟩
  | .row b es c :: r, E, m, us, k, hA, hr, h => by
    simp only [frzC] at h
    split at h
    · rename_i l hl
      obtain ⟨u, hu, hx⟩ := hr 0 _ rfl
      obtain ⟨blk, hb, hlv⟩ := rowsOf_live hl
      obtain ⟨g1, s1⟩ := fz_grow (Wt := Wt) hA.sat hb hlv
      have hR := (rowsOf_readsT hI hA.sat hl (.inr hx)).mono (T' := (E.fz b).F) (fun k ⟨_, x, _, _, h⟩ => .inr ⟨x, h⟩)
      obtain ⟨A_, c', u', e, hc, hrow, hg⟩ := hR.row
      have hG : GRep (E.fz b).F w (.rows es l) u := by
        rw [e]
        exact .rows u' hc hrow (fun i r j x hi hj => GRep.step (fun _ h => .inl h) (fun _ _ => rfl) (hg i r j x hi hj))
      obtain ⟨gs, E', m', h1, h2, h3, h4, h5⟩ := frzC_inv hI r (us := us.tail) ⟨s1, hA.ts.step g1.toStep, hA.defers.step g1.toStep⟩ (fun i y hi => by
        obtain ⟨v, q1, q2⟩ := hr (i + 1) y (by simpa using hi)
        exact ⟨v, by rw [List.getElem?_tail]; exact q1, q2.step g1.toStep⟩) h
      refine ⟨.rows es l :: gs, E', m', h1, g1.trans h2 (fun _ _ h => h), by simp [h3], fun i g hi => ?_, h5⟩
      cases i with
      | zero => simp at hi; subst hi; exact ⟨u, hu, GRep.step h2.F (fun k hk => h2.frz k (.inl hk)) hG⟩
      | succ i =>
        obtain ⟨v, q1, q2⟩ := h4 i g (by simpa using hi)
        exact ⟨v, by rw [← q1, List.getElem?_tail], q2⟩
    · exact (holds_fail h).elim
  | .any :: _, _, _, _, _, _, _, h => (holds_fail h).elim
  | .bor _ _ :: _, _, _, _, _, _, _, h => (holds_fail h).elim
  | .gp _ _ :: _, _, _, _, _, _, _, h => (holds_fail h).elim
  | .ptr _ _ _ _ :: _, _, _, _, _, _, _, h => (holds_fail h).elim
  | .sl _ _ _ _ _ :: _, _, _, _, _, _, _, h => (holds_fail h).elim
  | .fn _ _ :: _, _, _, _, _, _, _, h => (holds_fail h).elim
  | .map _ :: _, _, _, _, _, _, _, h => (holds_fail h).elim
  | .stamp _ _ :: _, _, _, _, _, _, _, h => (holds_fail h).elim
theorem frzV_inv (hI : I = ints) {v : V1} {u : Value} {k : V1 → Mem → Tree} (hA : At E m w ts a) (hv : V1Rep E m w v u) (hn : v ≠ .c .any) (h : Holds P I p (frzV I v m k)) :
    ∃ v' E' m', At E' m' w ts a ∧ Grow Wt E m w E' m' w ∧ V1Rep E' m' w v' u ∧ v' ≠ .c .any ∧ Holds P I p (k v' m') := by
  unfold frzV at h
  split at h
  · exact ⟨v, E, m, hA, Grow.refl _ _ _ _, hv, hn, h⟩
  · cases v with
    | c x =>
      rcases hv with hv | hv
      · exact absurd (by rw [hv]) hn
      obtain ⟨gs, E', m', h1, h2, h3, h4, h5⟩ := frzC_inv (Wt := Wt) hI [x] (us := [u]) hA (fun i y hi => by
        cases i with
        | zero => simp at hi; subst hi; exact ⟨u, rfl, hv⟩
        | succ i => simp at hi) h
      match gs, h3 with
      | [g], _ =>
        obtain ⟨u', q1, q2⟩ := h4 0 g rfl
        cases q1
        exact ⟨.c (.g g), E', m', h1, h2, .inr q2, by simp, h5⟩
    | agg l =>
      obtain ⟨cs, rfl, hz, hr⟩ := hv
      obtain ⟨gs, E', m', h1, h2, h3, h4, h5⟩ := frzC_inv (Wt := Wt) hI l (us := cs.toList) hA (fun i y hi => by
        obtain ⟨u, q1, q2⟩ := hr i y hi
        exact ⟨u, by rw [Array.getElem?_toList]; exact q1, q2⟩) h
      refine ⟨.agg (gs.map C.g), E', m', h1, h2, ⟨cs, rfl, by rw [List.length_map, h3]; exact hz, fun i x hi => ?_⟩, by simp, h5⟩
      rw [List.getElem?_map] at hi
      obtain ⟨g, hg, rfl⟩ := Option.map_eq_some_iff.1 hi
      obtain ⟨u, q1, q2⟩ := h4 i g hg
      exact ⟨u, by rw [← Array.getElem?_toList]; exact q1, q2⟩
theorem Parts.step {E' : Env} {m' : Mem} {place : Nat → Option (Nat × Nat)} (g : Step E m w E' m' w) : ∀ {ps : List (Nat × Operand)} {vs : List (Nat × Nat × V1)}, Parts E m w a place ps vs → Parts E' m' w a place ps vs
  | _, _, .nil => .nil
  | _, _, .cons hp hv hn hP => .cons hp (hv.step g) hn (Parts.step g hP)
theorem frzP_inv (hI : I = ints) {place : Nat → Option (Nat × Nat)} : ∀ {ps : List (Nat × Operand)} {vs : List (Nat × Nat × V1)} {E : Env} {m : Mem} {k : List (Nat × Nat × V1) → Mem → Tree}, At E m w ts a → Parts E m w a place ps vs → Holds P I p (frzP I vs m k) →
    ∃ vs' E' m', At E' m' w ts a ∧ Grow Wt E m w E' m' w ∧ Parts E' m' w a place ps vs' ∧ Holds P I p (k vs' m')
  | _, _, E, m, k, hA, .nil, h => ⟨[], E, m, hA, Grow.refl _ _ _ _, .nil, h⟩
  | _, _, E, m, k, hA, .cons hp hv hn hP, h => by
    simp only [frzP] at h
    split at h
    · obtain ⟨v', E1, m1, hA1, g1, hv1, hn1, h1⟩ := frzV_inv (Wt := Wt) hI hA hv hn h
      obtain ⟨vs', E2, m2, hA2, g2, hP2, h2⟩ := frzP_inv hI hA1 (Parts.step g1.toStep hP) h1
      exact ⟨_, E2, m2, hA2, g1.trans g2 (fun _ _ h => h), .cons hp (hv1.step g2.toStep) hn1 hP2, h2⟩
    · obtain ⟨vs', E2, m2, hA2, g2, hP2, h2⟩ := frzP_inv hI hA hP h
      exact ⟨_, E2, m2, hA2, g2, .cons hp (hv.step g2.toStep) hn hP2, h2⟩
theorem LRes.pre {E2 : Env} {m2 : Mem} (g : Grow (fun b => okW wr b = true) E m w E2 m2 w) (h : LRes P I p E2 m2 w wr a o k Q) : LRes P I p E m w wr a o k Q := fun K hK => h K (fun av v E' m' w' h1 h2 h3 h4 => hK av v E' m' w' h1 (g.trans h2 (fun _ _ h => h)) h3 h4)
theorem l_buildSlice {t e : TypeId} {es n : Nat} {ps : Array (Nat × Operand)} {z : List C} {l : List (Nat × Opd)} (hI : I = ints) (hop : o.op = .buildSlice t n ps) (ht : P.underlying t = some (.slice e)) (hs : size? P e = some es) (hz : zero P e = some z) (hl : compParts ps.toList = some l)
    (h0 : 0 < es) (hsm : n * es ≤ 2 ^ 24) (hA : At E m w ts a) (h : Holds P I p (evOp I er wr (.buildSlice es z n l) ts m k)) : LRes P I p E m w wr a o k Q := by
  obtain ⟨vs, hP, h⟩ := compParts_build hl hA h
  obtain ⟨vs2, E2, m2, hA2, g2, hP2, h⟩ := frzP_inv (Wt := fun b => okW wr b = true) hI hA hP h
  exact LRes.pre g2 (buildSlice_core hop ht hs hz hP2 h0 hsm hA2 h)
theorem l_store {t : TypeId} {X Y : Operand} {x y : Opd} {n : Nat} (hI : I = ints) (hop : o.op = .store t X Y) (hsz : size? P t = some n) (ho : opd X = some x) (ho' : opd Y = some y) (hA : At E m w ts a) (h9 : Holds P I p (evOp I er wr (.store n x y) ts m k)) : LRes P I p E m w wr a o k Q := by
  obtain ⟨c, hc, h8⟩ := evC_inv ho hA h9
  clear h9
  obtain ⟨v, hv, hn, h⟩ := evV_inv ho' hA h8
  clear h8
  cases c with
  | ptr b i es j =>
    simp only at h
    split at h
    · rename_i hW
      split at h
      · obtain ⟨v2, E2, m2, hA2, g2, hv2, hn2, h⟩ := frzV_inv (Wt := fun b => okW wr b = true) hI hA hv hn h
        exact LRes.pre g2 (stq_sim hI hop hsz hA2 (hc.imp id (fun h => h.step g2.toStep)) hv2 hn2 hW h)
      · exact stq_sim hI hop hsz hA hc hv hn hW h
    · exact (holds_fail h).elim
  | _ => exact (holds_fail h).elim
/-! ### Maps -/
theorem l_makeMap {t : TypeId} {ag : Option Nat} (hop : o.op = .makeMap t none) (hA : At E m w ts a) (h : Holds P I p (evOp I er wr (.makeMap ag) ts m k)) : LRes P I p E m w wr a o k Q := by
  intro K hK
  have hg := add_grow (Wt := fun b => okW wr b = true) (w' := w.alloc (.map #[] 0)) hA.sat (blk := .mp ag []) (r := some (w.heap.size, 0)) (by simp) rfl rfl rfl (stays_below (fun k hk => heap_alloc_old w _ hk)) (fun k hk => heap_alloc_old w _ hk) (fun a_ base e => by cases e; exact Nat.le_refl _)
    (fun _ => .inr ⟨w.heap.size, 0, rfl, fun j hj => by simp [Blk.rows] at hj, by simp, fun i row hi => by simp [Blk.rows] at hi⟩)
    (fun ag' l e => by cases e; exact ⟨_, rfl, ⟨⟨#[], 0, heap_alloc_new w _, rfl, fun i row h => by simp at h, fun i j e e' h => by simp at h⟩⟩⟩)
  have hrun : (execOp a.eval o).run P w = .ok (.value (.map (some w.heap.size))) (w.alloc (.map #[] 0)) := by
    simp [execOp, hop, Instr.makeMap]
  unfold Oper.wp
  rw [hrun]
  exact hK _ _ _ _ _ h hg.1 hg.2 (.inr ⟨by simp, w.heap.size, 0, if_pos rfl, rfl⟩)
theorem mapOf_inv {ag : Option Nat} {c : C} {kd : IntKind} {k : Nat → List (List G) → Tree} (hs : Sat E m w) {u : Value} (hc : c = .any ∨ CRep E m w c u) (h : Holds P I p (mapOf ag c kd m k)) :
    kd = .i64 ∧ ∃ b l a_, c = .map b ∧ m[b]? = some (.mp ag l) ∧ E.ρ b = some (a_, 0) ∧ u = .map (some a_) ∧ MapAt w E.F ag l a_ ∧ Holds P I p (k b l) := by
  unfold mapOf at h
  split at h
  · rename_i b
    split at h
    · rename_i ag' l hm
      split at h
      · rename_i he
        obtain rfl : ag = ag' := by simpa using he
        rcases hc with hc | ⟨h1, a_, base, h2, h3⟩
        · cases hc
        · obtain ⟨a', e, _, hat⟩ := hs.maps b ag l hm
          rw [e] at h2
          cases h2
          exact ⟨rfl, b, l, a_, rfl, hm, e, h3, hat, h⟩
      · exact (holds_fail h).elim
    · exact (holds_fail h).elim
  · exact (holds_fail h).elim
/-! ### Keys -/
theorem zNat_inj {a b : Int} (h : zNat a = zNat b) : a = b := by
  unfold zNat at h
  split at h <;> split at h <;> omega
theorem pow_odd : ∀ {x x' y y' : Nat}, 2 ^ x * (2 * y + 1) = 2 ^ x' * (2 * y' + 1) → x = x' ∧ y = y'
  | 0, 0, y, y', h => by simp at h; exact ⟨rfl, by omega⟩
  | 0, x + 1, y, y', h => by
    rw [Nat.pow_succ, Nat.mul_comm (2 ^ x) 2, Nat.mul_assoc] at h
    generalize 2 ^ x * (2 * y' + 1) = q at h
    omega
  | x + 1, 0, y, y', h => by
    rw [Nat.pow_succ, Nat.mul_comm (2 ^ x) 2, Nat.mul_assoc] at h
    generalize 2 ^ x * (2 * y + 1) = q at h
    omega
  | x + 1, x' + 1, y, y', h => by
    rw [Nat.pow_succ, Nat.pow_succ, Nat.mul_comm (2 ^ x) 2, Nat.mul_comm (2 ^ x') 2, Nat.mul_assoc, Nat.mul_assoc] at h
    obtain ⟨h1, h2⟩ := pow_odd (x := x) (x' := x') (y := y) (y' := y') (by omega)
    exact ⟨by omega, h2⟩
theorem pairZ_inj {a b c d : Int} (h : pairZ a b = pairZ c d) : a = c ∧ b = d := by
  unfold pairZ at h
  obtain ⟨h1, h2⟩ := pow_odd (Int.ofNat_inj.1 h)
  exact ⟨zNat_inj h1, zNat_inj h2⟩
theorem kvIs_int {ag : Option Nat} (hag : ag ≠ some 0) {z : Int} {v : Value} : kvIs ag z v ↔ v = .int .i64 z := by
  unfold kvIs
  split
  · exact absurd rfl hag
  · exact Iff.rfl
theorem kvIs_fun {ag : Option Nat} {z : Int} {v v' : Value} (h : kvIs ag z v) (h' : kvIs ag z v') : v = v' := by
  by_cases hag : ag = some 0
  · subst hag
    obtain ⟨a, b, h1, rfl⟩ := h
    obtain ⟨c, d, h2, rfl⟩ := h'
    obtain ⟨rfl, rfl⟩ := pairZ_inj (h1.symm.trans h2)
    rfl
  · rw [(kvIs_int hag).1 h, (kvIs_int hag).1 h']
theorem kvIs_inj {ag : Option Nat} {z z' : Int} {v : Value} (h : kvIs ag z v) (h' : kvIs ag z' v) : z = z' := by
  by_cases hag : ag = some 0
  · subst hag
    obtain ⟨a, b, rfl, rfl⟩ := h
    obtain ⟨c, d, rfl, h2⟩ := h'
    simp at h2
    rw [h2.1, h2.2]
  · have h1 := (kvIs_int hag).1 h
    have h2 := (kvIs_int hag).1 h'
    rw [h1] at h2
    simpa using h2
/-- A map's keys, by their type. -/
def keyTy (P : Program) (ag : Option Nat) (kt : TypeId) : Prop := match ag with
  | some 0 => ∃ e i, P.underlying kt = some (.array 2 e) ∧ P.underlying e = some (.int .i64) ∧ P.info? e = some i ∧ P.cellsOf e = 1
  | _ => P.underlying kt = some (.int .i64)
theorem keyTy_int {ag : Option Nat} (hag : ag ≠ some 0) {kt : TypeId} (h : keyTy P ag kt) : P.underlying kt = some (.int .i64) := by
  unfold keyTy at h
  split at h
  · exact absurd rfl hag
  · exact h
theorem run_eq2 {kt e : TypeId} {i : TypeInfo} (hu : P.underlying kt = some (.array 2 e)) (he : P.underlying e = some (.int .i64)) (hi : P.info? e = some i) (hc : P.cellsOf e = 1) (a b c d : Int) (w : World) :
    (Op.equal kt (.agg #[.int .i64 a, .int .i64 b]) (.agg #[.int .i64 c, .int .i64 d])).run P w = .ok (a == c && b == d) w := by
  have hp : P.plainKey e = true := by simp [Program.plainKey, he]
  unfold Op.equal
  rw [show Op.maxDepth = 9999 + 1 from rfl, run_equalIn_array w 9999 _ _ hu hi, hc]
  have h0 : ∀ x y : Int, (part e #[.int .i64 x, .int .i64 y] 0).run P w = .ok (.int .i64 x) w := fun x y => run_part_plain w hp rfl
  have h1 : ∀ x y : Int, (part e #[.int .i64 x, .int .i64 y] 1).run P w = .ok (.int .i64 y) w := fun x y => run_part_plain w hp rfl
  have h2 : ∀ (n : Nat) (x y : Int), (Op.equalIn (n + 1) e (.int .i64 x) (.int .i64 y)).run P w = .ok (x == y) w := fun n x y => by simp [Op.equalIn, run_underlying he]
  have h2 : ∀ x y : Int, (Op.equalIn 9999 e (.int .i64 x) (.int .i64 y)).run P w = .ok (x == y) w := h2 9998
  show (Op.eqItems 9999 e 1 _ _ [0, 1]).run P w = _
  cases hq : (a == c) <;> cases hr : (b == d) <;> simp [Op.eqItems, h0, h1, h2, hq, hr, Result.andThen]
theorem run_checkK {ag : Option Nat} {kt : TypeId} (ht : keyTy P ag kt) {z : Int} {v : Value} (hv : kvIs ag z v) (em : Bool) (w : World) : (Instr.checkKey em 10000 kt v).run P w = .ok () w := by
  by_cases hag : ag = some 0
  · subst hag
    obtain ⟨e, i, h1, h2, h3, h4⟩ := ht
    obtain ⟨a, b, rfl, rfl⟩ := hv
    have hp : P.plainKey e = true := by simp [Program.plainKey, h2]
    have h5 : (part e #[.int .i64 a, .int .i64 b] 0).run P w = .ok (.int .i64 a) w := run_part_plain w hp rfl
    have h6 : (part e #[.int .i64 a, .int .i64 b] 1).run P w = .ok (.int .i64 b) w := run_part_plain w hp rfl
    have h7 : ∀ x : Int, (Instr.checkKey em 9999 e (.int .i64 x)).run P w = .ok () w := fun x => MapKept.run_checkKey (n := 9998) h2 (show MapKept.IsKey (.int .i64) (.int .i64 x) from rfl) em
    have h8 : i.size = 1 := by simpa [Program.cellsOf, h3] using h4
    have h9 : (sizeOf e).run P w = .ok 1 w := by rw [run_sizeOf w h3, h4]
    rw [show (10000 : Nat) = 9999 + 1 from rfl]
    unfold Instr.checkKey
    simp [run_underlying h1, Std.Legacy.Range.forIn_eq_forIn_range', Std.Legacy.Range.size, List.range', h9, h5, h6, h7, Result.andThen]
  · rw [(kvIs_int hag).1 hv]
    exact MapKept.run_checkKey (n := 9999) (keyTy_int hag ht) (show MapKept.IsKey (.int .i64) (.int .i64 z) from rfl) em
theorem run_staysK {ag : Option Nat} {z : Int} {v : Value} (hv : kvIs ag z v) (w : World) : (Instr.keyThatStays v v).run P w = .ok v w := by
  by_cases hag : ag = some 0
  · subst hag
    obtain ⟨a, b, rfl, rfl⟩ := hv
    have : Instr.sameBits 10000 (.agg #[.int .i64 a, .int .i64 b]) (.agg #[.int .i64 a, .int .i64 b]) = true := by
      rw [show (10000 : Nat) = 9999 + 1 from rfl]
      simp [Instr.sameBits]
    simp [Instr.keyThatStays, this]
  · rw [(kvIs_int hag).1 hv]
    exact MapKept.run_keyThatStays (show MapKept.IsKey (.int .i64) (.int .i64 z) from rfl)
def KeyAt (ag : Option Nat) (l : List (List G)) (es : List MapEntry) : Prop := es.length = l.length ∧ ∀ (i : Nat) (row : List G), l[i]? = some row → ∃ (z : Z) (gs : List G) (e : MapEntry), row = .int .i64 z :: gs ∧ es[i]? = some e ∧ kvIs ag z.val e.key
/-- Looked for one by one. -/
theorem look_spec {ag : Option Nat} {z : Int} {v : Value} (hv : kvIs ag z v) (R : List MapEntry → Nat → Option (Nat × Value) → Prop) (hnil : ∀ n, R [] n none) (hyes : ∀ e es n, e.key = v → R (e :: es) n (some (n, e.val)))
    (hno : ∀ z' e es n r, kvIs ag z' e.key → z' ≠ z → R es (n + 1) r → R (e :: es) n r) : ∀ (l : List (List G)) (es : List MapEntry) (n : Nat), KeyAt ag l es →
    (R es n none ∧ mfind l z = none ∧ (∀ r, mset l z r = l ++ [r]) ∧ ∀ e ∈ es, e.key ≠ v) ∨
    ∃ (i : Nat) (row : List G) (e : MapEntry), R es n (some (n + i, e.val)) ∧ mfind l z = some row ∧ l[i]? = some row ∧ es[i]? = some e ∧ e.key = v ∧ ∀ r, mset l z r = l.set i r
  | [], es, n, h => by
    obtain rfl : es = [] := List.eq_nil_of_length_eq_zero h.1
    exact .inl ⟨hnil n, rfl, fun _ => rfl, by simp⟩
  | row :: l, [], n, h => by simp [KeyAt] at h
  | row :: l, e :: es, n, h => by
    obtain ⟨hl, hk⟩ := h
    obtain ⟨z0, gs, e0, rfl, h2, h3⟩ := hk 0 row rfl
    simp at h2
    subst h2
    by_cases hz : z = z0.val
    · have he : e.key = v := kvIs_fun h3 (hz ▸ hv)
      exact .inr ⟨0, _, e, hyes e es n he, by simp [mfind, rowKey, hz], rfl, rfl, he, fun r => by simp [mset, rowKey, hz]⟩
    · have hz' : ¬ z0.val = z := fun e => hz e.symm
      rcases look_spec hv R hnil hyes hno l es (n + 1) ⟨by simpa using hl, fun i row hi => by simpa using hk (i + 1) row (by simpa using hi)⟩ with ⟨g1, g2, g3, g4⟩ | ⟨i, row, e', g1, g2, g3, g4, g5, g6⟩
      · refine .inl ⟨hno _ e es n none h3 hz' g1, by simpa [mfind, rowKey, hz'] using g2, fun r => by simp [mset, rowKey, hz', g3], ?_⟩
        intro e' he'
        rcases List.mem_cons.1 he' with rfl | he'
        · intro h9
          rw [h9] at h3
          exact hz (kvIs_inj hv h3)
        · exact g4 e' he'
      · refine .inr ⟨i + 1, row, e', ?_, by simpa [mfind, rowKey, hz'] using g2, by simpa using g3, by simpa using g4, g5, fun r => by simp [mset, rowKey, hz', g6]⟩
        have := hno _ e es n _ h3 hz' g1
        rw [show n + (i + 1) = n + 1 + i by omega]
        exact this
theorem find_spec {ag : Option Nat} {kt : TypeId} (ht : keyTy P ag kt) {z : Int} {v : Value} (hv : kvIs ag z v) (l : List (List G)) (es : List MapEntry) (h : KeyAt ag l es) :
    ((∀ w, (Instr.findKey kt v es).run P w = .ok none w) ∧ mfind l z = none ∧ (∀ r, mset l z r = l ++ [r]) ∧ ∀ e ∈ es, e.key ≠ v) ∨
    ∃ (i : Nat) (row : List G) (e : MapEntry), (∀ w, (Instr.findKey kt v es).run P w = .ok (some (i, e.val)) w) ∧ mfind l z = some row ∧ l[i]? = some row ∧ es[i]? = some e ∧ e.key = v ∧ ∀ r, mset l z r = l.set i r := by
  by_cases hag : ag = some 0
  · subst hag
    obtain ⟨e, i, h1, h2, h3, h4⟩ := ht
    obtain ⟨a, b, hz, hv2⟩ := id hv
    have heq := run_eq2 (P := P) h1 h2 h3 h4 a b
    have hfk : ∀ (es : List MapEntry) (r : Option (Nat × Value)), (∀ w, (Instr.findAsking kt v es 0).run P w = .ok r w) → ∀ w, (Instr.findKey kt v es).run P w = .ok r w := fun es r h w => by
      cases es with
      | nil =>
        have h9 := h w
        simp [Instr.findAsking] at h9
        simp [Instr.findKey, run_underlying h1, Result.andThen, Instr.findNow, ← h9]
      | cons e es =>
        have h9 := h w
        simpa [Instr.findKey, run_underlying h1, Result.andThen, Instr.findNow, Instr.sameNow] using h9
    rcases look_spec hv (fun es n r => ∀ w, (Instr.findAsking kt v es n).run P w = .ok r w) (fun n w => by simp [Instr.findAsking]) (fun e es n he w => by
        have := heq a b w
        rw [← hv2] at this
        simp only [beq_self_eq_true, Bool.and_self] at this
        simp [Instr.findAsking, he, this, Result.andThen]) (fun z' e es n r hk hne hr w => by
        obtain ⟨c, d, rfl, hk⟩ := hk
        have h9 := heq c d w
        have : (a == c && b == d) = false := by
          cases hq : (a == c && b == d) with
          | false => rfl
          | true =>
            simp at hq
            exact absurd (by rw [hz, hq.1, hq.2]) hne
        rw [this, ← hv2, ← hk] at h9
        simp [Instr.findAsking, h9, Result.andThen, hr w]) l es 0 h with ⟨g1, g2, g3, g4⟩ | ⟨i, row, e', g1, g2, g3, g4, g5, g6⟩
    · exact .inl ⟨hfk _ _ g1, g2, g3, g4⟩
    · exact .inr ⟨i, row, e', hfk _ _ (by simpa using g1), g2, g3, g4, g5, g6⟩
  · have ht := keyTy_int hag ht
    have hv2 := (kvIs_int hag).1 hv
    rcases look_spec hv (fun es n r => Instr.findNow (.int .i64) v es n = some r) (fun n => rfl) (fun e es n he => by
        subst hv2
        simp [Instr.findNow, he, Instr.sameNow]) (fun z' e es n r hk hne hr => by
        have hk := (kvIs_int hag).1 hk
        subst hv2
        have : (z == z') = false := by simpa using fun e => hne e.symm
        simp [Instr.findNow, hk, Instr.sameNow, this, hr]) l es 0 h with ⟨g1, g2, g3, g4⟩ | ⟨i, row, e', g1, g2, g3, g4, g5, g6⟩
    · exact .inl ⟨fun w => MapKept.run_findKey ht g1, g2, g3, g4⟩
    · exact .inr ⟨i, row, e', fun w => MapKept.run_findKey ht (by simpa using g1), g2, g3, g4, g5, g6⟩
theorem evK_inv {ag : Option Nat} {Y : Operand} {y : Opd} {k : IntKind → Z → Tree} (hI : I = ints) (ho : opd Y = some y) (hA : At E m w ts a) (h : Holds P I p (evK I ag ts y k)) : ∃ kd z, (kd = .i64 → kvIs ag z.val (a.eval Y)) ∧ Holds P I p (k kd z) := by
  unfold evK at h
  split at h
  · split at h
    · rename_i za zb he
      have hr := opd_rep ho hA
      rw [he] at hr
      obtain ⟨cs, h1, h2, h3⟩ := hr
      obtain ⟨u, h4, h5⟩ := h3 0 _ rfl
      obtain ⟨u', h6, h7⟩ := h3 1 _ rfl
      refine ⟨_, _, fun _ => ⟨za.val, zb.val, ?_, ?_⟩, h⟩
      · show I.pair za.val zb.val = _
        rw [hI]
        rfl
      · rw [h1]
        cases h5
        cases h7
        congr 1
        apply Array.ext_getElem?
        intro i
        match i with
        | 0 => exact h4
        | 1 => exact h6
        | i + 2 =>
          rw [Array.getElem?_eq_none (by rw [h2]; simp), Array.getElem?_eq_none (by simp)]
    · exact (holds_fail h).elim
  · rename_i hag
    obtain ⟨kd, z, hz, h⟩ := evZ_inv ho hA h
    refine ⟨kd, z, fun e => ?_, h⟩
    subst e
    exact (kvIs_int (fun e => hag e)).2 hz
theorem vag_id {ag : Option Nat} (h : ag ≠ some 0) : vag ag = ag := by
  unfold vag
  split
  · exact absurd rfl h
  · rfl
theorem mapTyI_inv {t : TypeId} {ag : Option Nat} {z : List C} (h : mapTyI P t = some (ag, z)) : mapTy P t = some (ag, z) ∧ ag ≠ some 0 := by
  unfold mapTyI at h
  split at h
  · cases h
  · rename_i h1
    refine ⟨h, fun e => ?_⟩
    subst e
    exact h1 _ h
/-- What a key's row says of its entry. -/
def ValAt (w : World) (F : Nat → Prop) (ag : Option Nat) (gs : List G) (v : Value) : Prop :=
  ∃ us : List Value, us.length = gs.length ∧ (∀ (j : Nat) (g : G), gs[j]? = some g → ∃ u, us[j]? = some u ∧ GRep F w g u) ∧ (match ag with | none => us = [v] | some n => v = .agg us.toArray ∧ us.length = n)
theorem val_seg {ag : Option Nat} {gs : List G} {v : Value} {x : G} {k : V1 → Tree} (hv : ValAt w E.F ag gs v) (h : Holds P I p (seg ((x :: gs).map C.g) 1 ag k)) : ∃ v1, Holds P I p (k v1) ∧ V1Rep E m w v1 v := by
  obtain ⟨us, h1, h2, h3⟩ := hv
  rcases seg_inv h with ⟨rfl, c, hj, h⟩ | ⟨n, rfl, hn, h⟩
  · subst h3
    rw [List.getElem?_map] at hj
    obtain ⟨g, hg, rfl⟩ := Option.map_eq_some_iff.1 hj
    obtain ⟨u, q1, q2⟩ := h2 0 g (by simpa using hg)
    simp at q1
    subst q1
    exact ⟨_, h, .inr q2⟩
  · obtain ⟨rfl, hn'⟩ := h3
    refine ⟨_, h, us.toArray, rfl, by simp at hn ⊢; omega, fun i y hi => ?_⟩
    rw [List.getElem?_take] at hi
    split at hi
    · rw [List.getElem?_drop, List.getElem?_map] at hi
      obtain ⟨g, hg, rfl⟩ := Option.map_eq_some_iff.1 hi
      obtain ⟨u, q1, q2⟩ := h2 i g (by rw [Nat.add_comm] at hg; simpa using hg)
      exact ⟨u, by simpa using q1, q2⟩
    · cases hi
theorem ValAt.sy {F : Nat → Prop} {ag : Option Nat} {gs : List G} {v : Value} (h : ValAt w F ag gs v) : ValAt w F ag (gs.map G.sy) v := by
  obtain ⟨us, h1, h2, h3⟩ := h
  refine ⟨us, by simpa using h1, fun j g hj => ?_, h3⟩
  rw [List.getElem?_map] at hj
  obtain ⟨g, hg, rfl⟩ := Option.map_eq_some_iff.1 hj
  obtain ⟨u, q1, q2⟩ := h2 j g hg
  exact ⟨u, q1, G_sy q2⟩
theorem csts_rep : ∀ (l : List Value) (z : List C), csts l = some z → l.length = z.length ∧ ∀ (i : Nat) (x : C), z[i]? = some x → ∃ u, l[i]? = some u ∧ CRep E m w x u
  | [], z, hz => by cases hz; exact ⟨rfl, fun i x hi => by simp at hi⟩
  | v :: l, z, hz => by
    simp only [csts] at hz
    split at hz
    · rename_i x l' hx hl
      cases hz
      obtain ⟨h1, h2⟩ := csts_rep l l' hl
      refine ⟨by simp [h1], fun i y hi => ?_⟩
      cases i with
      | zero => simp at hi; subst hi; exact ⟨v, rfl, zcst_rep hx E m w⟩
      | succ i => simpa using h2 i y (by simpa using hi)
    · cases hz
/-- A map's type. -/
theorem mapTy_spec {t : TypeId} {ag : Option Nat} {z : List C} (h : mapTy P t = some (ag, z)) : ∃ kt et v, P.underlying t = some (.map kt et) ∧ keyTy P ag kt ∧ (∀ w, (zeroValue et).run P w = .ok v w) ∧
    (∀ (E : Env) (m : Mem) (w : World) (k : V1 → Tree), Holds P I p (seg z 0 (vag ag) k) → ∃ v1, Holds P I p (k v1) ∧ V1Rep E m w v1 v) ∧ ∀ (F : Nat → Prop) (w : World) (gs : List G), grounds z = some gs → ValAt w F (vag ag) gs v := by
  unfold mapTy at h
  split at h
  · rename_i kt et ht
    have zv : ∀ {v : Value}, (P.info? et).bind (·.zero) = some v → ∀ w, (zeroValue et).run P w = .ok v w := fun {v} hz w => by
      cases hi : P.info? et with
      | none => simp [hi] at hz
      | some i => simp [hi] at hz; simp [zeroValue, typeInfo, hi, hz]
    split at h
    · rename_i v hk ha hz
      split at h
      · rename_i c hc
        cases h
        refine ⟨kt, et, v, ht, hk, zv hz, fun E m w k hh => ?_, fun F w gs hg => ?_⟩
        · rcases seg_inv hh with ⟨_, c', hj, hh⟩ | ⟨n, e, _⟩
          · simp at hj
            subst hj
            exact ⟨_, hh, .inr (cst_rep hc E m w)⟩
          · cases e
        · have := cst_rep hc ⟨F, fun _ => False, fun _ => none⟩ [] w
          cases c with
          | g x =>
            simp [grounds] at hg
            subst hg
            refine ⟨[v], rfl, fun j g hj => ?_, rfl⟩
            cases j with
            | zero => simp at hj; subst hj; exact ⟨v, rfl, this⟩
            | succ j => simp at hj
          | _ => simp [grounds] at hg
      · cases h
    · rename_i n cs hk ha hz
      split at h
      · rename_i z' hc hn
        cases h
        have hn' : cs.size = n + 1 := by simpa using hn
        refine ⟨kt, et, .agg cs, ht, hk, zv hz, fun E m w k hh => ?_, fun F w gs hg => ?_⟩
        · obtain ⟨h1, h2⟩ := csts_rep (E := E) (m := m) (w := w) _ _ hc
          rcases seg_inv hh with ⟨e, _⟩ | ⟨n', e, hn2, hh⟩
          · cases e
          · cases e
            refine ⟨_, hh, cs, rfl, by simp at h1 hn2 ⊢; omega, fun i y hi => ?_⟩
            rw [List.getElem?_take] at hi
            split at hi
            · obtain ⟨u, q1, q2⟩ := h2 i y (by simpa using hi)
              exact ⟨u, by simpa using q1, q2⟩
            · cases hi
        · obtain ⟨h1, h2⟩ := csts_rep (E := ⟨F, fun _ => False, fun _ => none⟩) (m := []) (w := w) _ _ hc
          have hz' := grounds_map hg
          refine ⟨cs.toList, by rw [h1, ← hz']; simp, fun j g hj => ?_, by simp, by simpa using hn'⟩
          obtain ⟨u, q1, q2⟩ := h2 j (.g g) (by rw [← hz']; simp [hj])
          exact ⟨u, q1, q2⟩
      · cases h
    · rename_i e v hk ha hz
      split at h
      · rename_i i c h1 h2 h3 hc
        cases h
        refine ⟨kt, et, v, ht, ⟨e, i, hk, h1, h2, by simpa using h3⟩, zv hz, fun E m w k hh => ?_, fun F w gs hg => ?_⟩
        · rcases seg_inv hh with ⟨_, c', hj, hh⟩ | ⟨n, e, _⟩
          · simp at hj
            subst hj
            exact ⟨_, hh, .inr (cst_rep hc E m w)⟩
          · cases e
        · have := cst_rep hc ⟨F, fun _ => False, fun _ => none⟩ [] w
          cases c with
          | g x =>
            simp [grounds] at hg
            subst hg
            refine ⟨[v], rfl, fun j g hj => ?_, rfl⟩
            cases j with
            | zero => simp at hj; subst hj; exact ⟨v, rfl, this⟩
            | succ j => simp at hj
          | _ => simp [grounds] at hg
      · cases h
    · cases h
  · cases h
theorem fits_rep {ag : Option Nat} {v : V1} {gs : List G} {u : Value} (hf : fits ag v = true) (hg : grounds v.cells = some gs) (hv : V1Rep E m w v u) : ValAt w E.F ag gs u := by
  have hz := grounds_map hg
  unfold fits at hf
  split at hf
  · rename_i c
    rcases hv with rfl | hv
    · simp [V1.cells, grounds] at hg
    · cases c with
      | g x =>
        simp [V1.cells, grounds] at hg
        subst hg
        refine ⟨[u], rfl, fun j g hj => ?_, rfl⟩
        cases j with
        | zero => simp at hj; subst hj; exact ⟨u, rfl, hv⟩
        | succ j => simp at hj
      | _ => simp [V1.cells, grounds] at hg
  · rename_i n l
    obtain ⟨cs, rfl, h2, h3⟩ := hv
    have hz' : gs.map C.g = l := hz
    have hl : l.length = n := by simpa using hf
    refine ⟨cs.toList, by rw [← hz'] at h2; simpa using h2, fun j g hj => ?_, by simp, by simpa [h2] using hl⟩
    obtain ⟨u, q1, q2⟩ := h3 j (.g g) (by rw [← hz']; simp [hj])
    exact ⟨u, by simpa using q1, q2⟩
  · cases hf
/-- One map is written. -/
theorem map_grow (hs : Sat E m w) {b a_ : Nat} {ag : Option Nat} {l l' : List (List G)} (hb : m[b]? = some (.mp ag l)) (hρ : E.ρ b = some (a_, 0)) (hW : Wt b) {es es' : Array MapEntry} {c c' : Nat} (hh : w.heap[a_]? = some (.map es c))
    (hkeep : ∀ (i : Nat) (e : MapEntry), es[i]? = some e → ∃ e', es'[i]? = some e' ∧ e'.key = e.key ∧ e'.born = e.born)
    (hat : (∀ k, E.F k → ({ w with heap := w.heap.setIfInBounds a_ (.map es' c') } : World).heap[k]? = w.heap[k]?) → MapAt { w with heap := w.heap.setIfInBounds a_ (.map es' c') } E.F ag l' a_) :
    Grow Wt E m w E (m.set b (.mp ag l')) { w with heap := w.heap.setIfInBounds a_ (.map es' c') } ∧ Sat E (m.set b (.mp ag l')) { w with heap := w.heap.setIfInBounds a_ (.map es' c') } := by
  have hset := MapKept.heap_set (w := w) (o' := .map es' c') hh
  have hdis := hs.dis b _ a_ 0 hb trivial hρ
  refine write_grow hs hb trivial trivial hρ hW rfl rfl rfl (by simp) (fun k hk => hset.2 k hk) ⟨fun x hx => ?_, fun q es1 c1 h1 => ?_⟩ rfl rfl (fun i row hi => by simp [Blk.rows] at hi) (fun ag1 l1 e => by cases e; exact ⟨rfl, hat (fun k hk => hset.2 k (fun e => by subst e; exact hdis.1 hk))⟩)
  · have hne : x.block ≠ a_ := fun e => by
      rw [← e] at hh
      simp [World.cell?, hh] at hx
    have h1 := World.cell?_of_block (w := w) (w' := { w with heap := w.heap.setIfInBounds a_ (.map es' c') }) (a := x) (hset.2 _ hne)
    have h2 := World.frozen?_of_block (w := w) (w' := { w with heap := w.heap.setIfInBounds a_ (.map es' c') }) (a := x) (hset.2 _ hne)
    exact ⟨by rw [h1]; exact hx, h2⟩
  · by_cases hq : q = a_
    · subst hq
      rw [hh] at h1
      cases h1
      exact ⟨es', c', hset.1, hkeep⟩
    · exact ⟨es1, c1, (hset.2 q hq).trans h1, fun i e h => ⟨e, h, rfl, rfl⟩⟩
theorem MapAt.keys {F : Nat → Prop} {ag : Option Nat} {l : List (List G)} {a_ : Nat} (h : MapAt w F ag l a_) : ∃ (es : Array MapEntry) (c : Nat), w.heap[a_]? = some (.map es c) ∧ KeyAt ag l es.toList ∧ (∀ (i : Nat) (e : MapEntry), es[i]? = some e → e.born < c) ∧
    (∀ (i j : Nat) (e e' : MapEntry), es[i]? = some e → es[j]? = some e' → e.born = e'.born ∨ e.key = e'.key → i = j) ∧
    ∀ (i : Nat) (row : List G) (e : MapEntry), l[i]? = some row → es[i]? = some e → ∃ (z : Z) (gs : List G), row = .int .i64 z :: gs ∧ kvIs ag z.val e.key ∧ ValAt w F (vag ag) gs e.val := by
  obtain ⟨es, c, h1, h2, h3, h4⟩ := h.ex
  refine ⟨es, c, h1, ⟨by simpa using h2, fun i row hi => ?_⟩, fun i e he => ?_, h4, fun i row e hi he => ?_⟩
  · obtain ⟨z, gs, e, us, g1, g2, g3, g4, g5, g6, g7⟩ := h3 i row hi
    exact ⟨z, gs, e, g1, by simpa using g2, g3⟩
  · have hlt : i < l.length := by rw [← h2]; exact (Array.getElem?_eq_some_iff.1 he).1
    obtain ⟨z, gs, e', us, g1, g2, g3, g4, g5, g6, g7⟩ := h3 i l[i] (List.getElem?_eq_getElem hlt)
    rw [he] at g2
    cases g2
    exact g4
  · obtain ⟨z, gs, e', us, g1, g2, g3, g4, g5, g6, g7⟩ := h3 i row hi
    rw [he] at g2
    cases g2
    exact ⟨z, gs, g1, g3, us, g5, g6, g7⟩
/-- A row is another one. -/
theorem map_set {F : Nat → Prop} {ag : Option Nat} {l : List (List G)} {a_ i : Nat} {es : Array MapEntry} {c : Nat} {e : MapEntry} {z : Z} {gs : List G} {kv v : Value} (hkv : kvIs ag z.val kv) (h : MapAt w F ag l a_) (hh : w.heap[a_]? = some (.map es c)) (he : es[i]? = some e) (hk : e.key = kv)
    (hF : ∀ k, F k → ({ w with heap := w.heap.setIfInBounds a_ (.map (es.modify i fun e => { e with key := kv, val := v }) c) } : World).heap[k]? = w.heap[k]?) (hv : ValAt w F (vag ag) gs v) :
    MapAt { w with heap := w.heap.setIfInBounds a_ (.map (es.modify i fun e => { e with key := kv, val := v }) c) } F ag (l.set i (.int .i64 z :: gs)) a_ := by
  obtain ⟨es', c', h1, h2, h3, h4⟩ := h.ex
  rw [hh] at h1
  cases h1
  have hlt : i < l.length := by rw [← h2]; exact (Array.getElem?_eq_some_iff.1 he).1
  have back : ∀ (j : Nat) (e1 : MapEntry), (es.modify i fun e => { e with key := kv, val := v })[j]? = some e1 → ∃ e0, es[j]? = some e0 ∧ e1.key = e0.key ∧ e1.born = e0.born := fun j e1 h => by
    rw [Array.getElem?_modify] at h
    by_cases hij : i = j
    · subst hij
      simp [he] at h
      subst h
      exact ⟨e, he, hk.symm, rfl⟩
    · simp only [hij, if_false] at h
      exact ⟨e1, h, rfl, rfl⟩
  refine ⟨_, c, (MapKept.heap_set hh).1, by simp [h2], fun j row hj => ?_, fun p q e1 e2 hp hq hb => ?_⟩
  · rw [List.getElem?_set] at hj
    by_cases hij : i = j
    · subst hij
      simp only [hlt, if_true, Option.some.injEq] at hj
      subst hj
      obtain ⟨us, u1, u2, u3⟩ := hv
      obtain ⟨z', gs', e', us', g1, g2, g3, g4, g5⟩ := h3 i l[i] (List.getElem?_eq_getElem hlt)
      rw [he] at g2
      cases g2
      refine ⟨z, gs, { e with key := kv, val := v }, us, rfl, by simp [Array.getElem?_modify, he], hkv, g4, u1, fun j g hj => ?_, u3⟩
      obtain ⟨u, q1, q2⟩ := u2 j g hj
      exact ⟨u, q1, q2.step (fun _ h => h) hF⟩
    · simp only [hij, if_false] at hj
      obtain ⟨z', gs', e', us', g1, g2, g3, g4, g5, g6, g7⟩ := h3 j row hj
      refine ⟨z', gs', e', us', g1, by rw [Array.getElem?_modify]; simp [hij, g2], g3, g4, g5, fun j g hj => ?_, g7⟩
      obtain ⟨u, q1, q2⟩ := g6 j g hj
      exact ⟨u, q1, q2.step (fun _ h => h) hF⟩
  · obtain ⟨e1', p1, p2, p3⟩ := back p e1 hp
    obtain ⟨e2', q1, q2, q3⟩ := back q e2 hq
    exact h4 p q e1' e2' p1 q1 (by rw [← p2, ← q2, ← p3, ← q3]; exact hb)
/-- A row more. -/
theorem map_push {F : Nat → Prop} {ag : Option Nat} {l : List (List G)} {a_ : Nat} {es : Array MapEntry} {c : Nat} {z : Z} {gs : List G} {kv v : Value} (hkv : kvIs ag z.val kv) (h : MapAt w F ag l a_) (hh : w.heap[a_]? = some (.map es c)) (hn : ∀ e ∈ es.toList, e.key ≠ kv)
    (hF : ∀ k, F k → ({ w with heap := w.heap.setIfInBounds a_ (.map (es.push { key := kv, val := v, born := c }) (c + 1)) } : World).heap[k]? = w.heap[k]?) (hv : ValAt w F (vag ag) gs v) :
    MapAt { w with heap := w.heap.setIfInBounds a_ (.map (es.push { key := kv, val := v, born := c }) (c + 1)) } F ag (l ++ [.int .i64 z :: gs]) a_ := by
  obtain ⟨es', c', h1, h2, h3, h4⟩ := h.ex
  rw [hh] at h1
  cases h1
  have hbo : ∀ (i : Nat) (e : MapEntry), es[i]? = some e → e.born < c := fun i e he => by
    have hlt : i < l.length := by rw [← h2]; exact (Array.getElem?_eq_some_iff.1 he).1
    obtain ⟨z', gs', e', us', g1, g2, g3, g4, g5⟩ := h3 i l[i] (List.getElem?_eq_getElem hlt)
    rw [he] at g2
    cases g2
    exact g4
  have back : ∀ (j : Nat) (e1 : MapEntry), (es.push { key := kv, val := v, born := c })[j]? = some e1 → es[j]? = some e1 ∨ (j = es.size ∧ e1 = { key := kv, val := v, born := c }) := fun j e1 h => by
    rw [Array.getElem?_push] at h
    split at h
    · cases h; exact .inr ⟨by assumption, rfl⟩
    · exact .inl h
  refine ⟨_, c + 1, (MapKept.heap_set hh).1, by simp [h2], fun j row hj => ?_, fun p q e1 e2 hp hq hb => ?_⟩
  · rw [List.getElem?_append] at hj
    split at hj
    · rename_i hlt
      obtain ⟨z', gs', e', us', g1, g2, g3, g4, g5, g6, g7⟩ := h3 j row hj
      refine ⟨z', gs', e', us', g1, by rw [Array.getElem?_push]; simp [h2, Nat.ne_of_lt hlt, g2], g3, by omega, g5, fun j g hj => ?_, g7⟩
      obtain ⟨u, q1, q2⟩ := g6 j g hj
      exact ⟨u, q1, q2.step (fun _ h => h) hF⟩
    · have hj0 : j = l.length := by
        cases hq : j - l.length with
        | zero => omega
        | succ n => rw [hq] at hj; simp at hj
      subst hj0
      simp at hj
      subst hj
      obtain ⟨us, u1, u2, u3⟩ := hv
      refine ⟨z, gs, { key := kv, val := v, born := c }, us, rfl, by rw [← h2]; simp, hkv, by simp, u1, fun j g hj => ?_, u3⟩
      obtain ⟨u, q1, q2⟩ := u2 j g hj
      exact ⟨u, q1, q2.step (fun _ h => h) hF⟩
  · rcases back p e1 hp with hp | ⟨rfl, rfl⟩ <;> rcases back q e2 hq with hq | ⟨rfl, rfl⟩
    · exact h4 p q e1 e2 hp hq hb
    · rcases hb with hb | hb
      · have := hbo p e1 hp
        simp at hb
        omega
      · exact absurd hb (hn e1 (List.mem_of_getElem? (by simpa using hp)))
    · rcases hb with hb | hb
      · have := hbo q e2 hq
        simp at hb
        omega
      · exact absurd hb.symm (hn e2 (List.mem_of_getElem? (by simpa using hq)))
    · rfl
theorem push_keep {es : Array MapEntry} {e0 : MapEntry} (i : Nat) (e : MapEntry) (h : es[i]? = some e) : ∃ e', (es.push e0)[i]? = some e' ∧ e'.key = e.key ∧ e'.born = e.born := by
  have hlt := (Array.getElem?_eq_some_iff.1 h).1
  exact ⟨e, by rw [Array.getElem?_push]; simp [Nat.ne_of_lt hlt, h], rfl, rfl⟩
theorem modify_keep {es : Array MapEntry} {q : Nat} {f : MapEntry → MapEntry} (hf : ∀ e, es[q]? = some e → (f e).key = e.key ∧ (f e).born = e.born) (i : Nat) (e : MapEntry) (h : es[i]? = some e) : ∃ e', (es.modify q f)[i]? = some e' ∧ e'.key = e.key ∧ e'.born = e.born := by
  by_cases hq : q = i
  · subst hq
    exact ⟨f e, by simp [Array.getElem?_modify, h], (hf e h).1, (hf e h).2⟩
  · exact ⟨e, by rw [Array.getElem?_modify]; simp [hq, h], rfl, rfl⟩
theorem l_lookup {t : TypeId} {ag : Option Nat} {z : List C} {ok : Bool} {X Y : Operand} {x y : Opd} (hop : o.op = .lookup t X Y ok) (ht : mapTy P t = some (ag, z)) (ho : opd X = some x) (ho' : opd Y = some y) (hI : I = ints) (hA : At E m w ts a) (h9 : Holds P I p (evOp I er wr (.lookup ok ag z x y) ts m k)) : LRes P I p E m w wr a o k Q := by
  obtain ⟨c, hc, h⟩ := evC_inv ho hA h9
  obtain ⟨kd, zk, hz, h⟩ := evK_inv hI ho' hA h
  obtain ⟨rfl, b, l, a_, rfl, hb, hρ, hX, hat, h⟩ := mapOf_inv hA.sat hc h
  have hz := hz rfl
  obtain ⟨kt, et, zv, t1, t2, t3, t4, t5⟩ := mapTy_spec (P := P) (I := I) (p := p) ht
  obtain ⟨es, cl, q1, q2, q3, q4, q5⟩ := hat.keys
  intro K hK
  unfold Oper.wp
  cases h with
  | find r hr h =>
  rcases find_spec t2 hz l es.toList q2 with ⟨g1, g2, g3, g4⟩ | ⟨i, row, e, g1, g2, g3, g4, g5, g6⟩
  · rw [g2] at hr
    subst hr
    obtain ⟨v1, h, hv⟩ := t4 E m w _ h
    have hrun : (execOp a.eval o).run P w = .ok (.value (if ok then .tuple #[zv, .bool false] else zv)) w := by
      simp [execOp, hop, hX, Instr.lookup, run_underlying t1, MapKept.run_getObj_map q1, run_checkK t2 hz, g1, t3, Result.andThen]
    rw [hrun]
    cases ok
    · exact hK _ _ _ _ _ h (Grow.refl _ _ _ _) hA.sat hv
    · refine hK _ _ _ _ _ h (Grow.refl _ _ _ _) hA.sat ⟨_, rfl, rfl, fun i x hi => ?_⟩
      match i, hi with
      | 0, hi => simp at hi; subst hi; exact ⟨_, rfl, hv⟩
      | 1, hi => simp at hi; subst hi; exact ⟨_, rfl, .inr (.bool (.lit false))⟩
      | i + 2, hi => simp at hi
  · rw [g2] at hr
    subst hr
    obtain ⟨z', gs, rfl, k2, k3⟩ := q5 i row e g3 (by simpa using g4)
    obtain ⟨v1, h, hv⟩ := val_seg (E := E) (m := m) k3 h
    have hrun : (execOp a.eval o).run P w = .ok (.value (if ok then .tuple #[e.val, .bool true] else e.val)) w := by
      simp [execOp, hop, hX, Instr.lookup, run_underlying t1, MapKept.run_getObj_map q1, run_checkK t2 hz, g1, Result.andThen]
    rw [hrun]
    cases ok
    · exact hK _ _ _ _ _ h (Grow.refl _ _ _ _) hA.sat hv
    · refine hK _ _ _ _ _ h (Grow.refl _ _ _ _) hA.sat ⟨_, rfl, rfl, fun i x hi => ?_⟩
      match i, hi with
      | 0, hi => simp at hi; subst hi; exact ⟨_, rfl, hv⟩
      | 1, hi => simp at hi; subst hi; exact ⟨_, rfl, .inr (.bool (.lit true))⟩
      | i + 2, hi => simp at hi
theorem l_mapUpdate {t : TypeId} {ag : Option Nat} {z : List C} {X Y V : Operand} {x y v : Opd} (hI : I = ints) (hop : o.op = .mapUpdate t X Y V) (ht : mapTy P t = some (ag, z)) (ho : opd X = some x) (ho' : opd Y = some y) (hv : opd V = some v) (hA0 : At E m w ts a) (h9 : Holds P I p (evOp I er wr (.mapUpdate ag x y v) ts m k)) : LRes P I p E m w wr a o k Q := by
  obtain ⟨c, hc0, h⟩ := evC_inv ho hA0 h9
  obtain ⟨kd, zk, hz, h⟩ := evK_inv hI ho' hA0 h
  obtain ⟨av0, hav0, hne0, h⟩ := evV_inv hv hA0 h
  obtain ⟨av, E2, m2, hA, g2, hav, hne, h⟩ := frzV_inv (Wt := fun b => okW wr b = true) hI hA0 hav0 hne0 h
  refine LRes.pre g2 ?_
  have hc := hc0.imp id (fun h => CRep.step g2.toStep h)
  obtain ⟨rfl, b, l, a_, rfl, hb, hρ, hX, hat, h⟩ := mapOf_inv hA.sat hc h
  have hz := hz rfl
  obtain ⟨kt, et, zv, t1, t2, t3, t4, t5⟩ := mapTy_spec (P := P) (I := I) (p := p) ht
  obtain ⟨es, cl, q1, q2, q3, q4, q5⟩ := hat.keys
  split at h
  · rename_i gs hW hg hf
    have hva := (fits_rep hf hg hav).sy
    have hm : I.mset = mset := by rw [hI]; rfl
    rw [hm] at h
    intro K hK
    unfold Oper.wp
    rcases find_spec t2 hz l es.toList q2 with ⟨g1, g2, g3, g4⟩ | ⟨i, row, e, g1, g2, g3, g4, g5, g6⟩
    · rw [g3] at h
      have hg := map_grow (Wt := fun b => okW wr b = true) (l' := l ++ [.int .i64 (.sym zk.val) :: gs.map G.sy]) hA.sat hb hρ hW q1 (es' := es.push { key := a.eval Y, val := a.eval V, born := cl }) (c' := cl + 1) (fun i e h => push_keep i e h) (fun hF => map_push (z := .sym zk.val) hz hat q1 g4 hF hva)
      have hrun : (execOp a.eval o).run P w = .ok .skip { w with heap := w.heap.setIfInBounds a_ (.map (es.push { key := a.eval Y, val := a.eval V, born := cl }) (cl + 1)) } := by
        simp [execOp, hop, hX, Instr.mapUpdate, run_underlying t1, MapKept.run_getObj_map q1, run_checkK t2 hz, g1, MapKept.run_setObj_map _ q1, Result.andThen]
      rw [hrun]
      exact hK _ undef _ _ _ h hg.1 hg.2 (.inl rfl)
    · rw [g6] at h
      have g4' : es[i]? = some e := by simpa using g4
      have hg := map_grow (Wt := fun b => okW wr b = true) (l' := l.set i (.int .i64 (.sym zk.val) :: gs.map G.sy)) hA.sat hb hρ hW q1 (es' := es.modify i fun e => { e with key := a.eval Y, val := a.eval V }) (c' := cl) (fun i e h => modify_keep (fun e he => by rw [g4'] at he; cases he; exact ⟨g5.symm, rfl⟩) i e h) (fun hF => map_set (z := .sym zk.val) hz hat q1 g4' g5 hF hva)
      have hrun : (execOp a.eval o).run P w = .ok .skip { w with heap := w.heap.setIfInBounds a_ (.map (es.modify i fun e => { e with key := a.eval Y, val := a.eval V }) cl) } := by
        simp [execOp, hop, hX, Instr.mapUpdate, run_underlying t1, MapKept.run_getObj_map q1, run_checkK t2 hz, g1, g4', g5, run_staysK hz, MapKept.run_setObj_map _ q1, Result.andThen]
      rw [hrun]
      exact hK _ undef _ _ _ h hg.1 hg.2 (.inl rfl)
  · exact (holds_fail h).elim
theorem l_mapEntry {t : TypeId} {ag : Option Nat} {z : List C} {X Y : Operand} {x y : Opd} (hI : I = ints) (hop : o.op = .mapEntry t X Y) (ht0 : mapTyI P t = some (ag, z)) (ho : opd X = some x) (ho' : opd Y = some y) (hA : At E m w ts a) (h9 : Holds P I p (evOp I er wr (.mapEntry ag z x y) ts m k)) : LRes P I p E m w wr a o k Q := by
  obtain ⟨ht, hag⟩ := mapTyI_inv ht0
  obtain ⟨c, hc, h⟩ := evC_inv ho hA h9
  obtain ⟨kd, zk, hz, h⟩ := evZ_inv ho' hA h
  obtain ⟨rfl, b, l, a_, rfl, hb, hρ, hX, hat, h⟩ := mapOf_inv hA.sat hc h
  obtain ⟨kt, et, zv, t1, t2, t3, t4, t5⟩ := mapTy_spec (P := P) (I := I) (p := p) ht
  obtain ⟨es, cl, q1, q2, q3, q4, q5⟩ := hat.keys
  rw [vag_id hag] at t4 t5
  have hkv : kvIs ag zk.val (.int .i64 zk.val) := (kvIs_int hag).2 rfl
  have hm : I.mset = mset := by rw [hI]; rfl
  have hbm : b < m.length := (List.getElem?_eq_some_iff.1 hb).1
  cases h with
  | find r hr h =>
  intro K hK
  unfold Oper.wp
  rcases find_spec t2 hkv l es.toList q2 with ⟨g1, g2, g3, g4⟩ | ⟨i, row, e, g1, g2, g3, g4, g5, g6⟩
  · rw [g2] at hr
    subst hr
    have hW : okW wr b = true := by
      cases hq : okW wr b with
      | true => rfl
      | false => simp only [hq] at h; exact (holds_fail h).elim
    simp only [hW] at h
    · cases hg0 : grounds z with
      | none => simp only [hg0] at h; exact (holds_fail h).elim
      | some gs =>
        simp only [hg0] at h
        obtain ⟨v1, h, hv⟩ := t4 E m w _ h
        rw [hm, g3] at h
        have hg := map_grow (Wt := fun b => okW wr b = true) (l' := l ++ [.int .i64 (.sym zk.val) :: gs.map G.sy]) hA.sat hb hρ hW q1 (es' := es.push { key := .int .i64 zk.val, val := zv, born := cl }) (c' := cl + 1) (fun i e h => push_keep i e h) (fun hF => map_push (z := .sym zk.val) hkv hat q1 g4 hF (by rw [vag_id hag]; exact (t5 _ _ _ hg0).sy))
        have hrun : (execOp a.eval o).run P w = .ok (.value (.tuple #[zv, .int .i64 cl])) { w with heap := w.heap.setIfInBounds a_ (.map (es.push { key := .int .i64 zk.val, val := zv, born := cl }) (cl + 1)) } := by
          simp [execOp, hop, hX, hz, Instr.mapEntry, run_underlying t1, MapKept.run_getObj_map q1, run_checkK t2 hkv, g1, MapKept.run_setObj_map _ q1, t3, Result.andThen, goInt]
        rw [hrun]
        refine hK _ _ _ _ _ h hg.1 hg.2 ⟨_, rfl, rfl, fun i x hi => ?_⟩
        match i, hi with
        | 0, hi => simp at hi; subst hi; exact ⟨_, rfl, hv.step hg.1.toStep⟩
        | 1, hi =>
          simp at hi
          subst hi
          exact ⟨_, rfl, .inr ⟨by simpa using hbm, a_, 0, cl, _, _, hρ, rfl, (MapKept.heap_set q1).1, es.size, { key := .int .i64 zk.val, val := zv, born := cl }, by simp, rfl, rfl⟩⟩
        | i + 2, hi => simp at hi
  · rw [g2] at hr
    subst hr
    have g4' : es[i]? = some e := by simpa using g4
    obtain ⟨z', gs, rfl, k2, k3⟩ := q5 i row e g3 g4'
    rw [vag_id hag] at k3
    have hW : okW wr b = true := by
      cases hq : okW wr b with
      | true => rfl
      | false => simp only [hq] at h; exact (holds_fail h).elim
    simp only [hW] at h
    · obtain ⟨v1, h, hv⟩ := val_seg (E := E) (m := m) k3 h
      have hmod : (es.modify i fun e => { e with key := .int .i64 zk.val }) = es := by
        apply Array.ext_getElem?
        intro j
        rw [Array.getElem?_modify]
        by_cases hij : i = j
        · subst hij
          simp [g4', ← g5]
        · simp [hij]
      have hw : ({ w with heap := w.heap.setIfInBounds a_ (.map (es.modify i fun e => { e with key := .int .i64 zk.val }) cl) } : World) = w := by
        rw [hmod]
        have : w.heap.setIfInBounds a_ (.map es cl) = w.heap := by
          apply Array.ext_getElem?
          intro j
          by_cases hj : a_ = j
          · subst hj
            rw [(MapKept.heap_set q1).1, q1]
          · rw [(MapKept.heap_set q1).2 j (Ne.symm hj)]
        rw [this]
      have hrun : (execOp a.eval o).run P w = .ok (.value (.tuple #[e.val, .int .i64 e.born])) w := by
        have : (execOp a.eval o).run P w = .ok (.value (.tuple #[e.val, .int .i64 e.born])) { w with heap := w.heap.setIfInBounds a_ (.map (es.modify i fun e => { e with key := .int .i64 zk.val }) cl) } := by
          simp [execOp, hop, hX, hz, Instr.mapEntry, run_underlying t1, MapKept.run_getObj_map q1, run_checkK t2 hkv, g1, g4', g5, run_staysK hkv, MapKept.run_setObj_map _ q1, Result.andThen, goInt]
        rw [this, hw]
      rw [hrun]
      refine hK _ _ _ _ _ h (Grow.refl _ _ _ _) hA.sat ⟨_, rfl, rfl, fun j x hi => ?_⟩
      match j, hi with
      | 0, hi => simp at hi; subst hi; exact ⟨_, rfl, hv⟩
      | 1, hi =>
        simp at hi
        subst hi
        exact ⟨_, rfl, .inr ⟨hbm, a_, 0, e.born, es, cl, hρ, rfl, q1, i, e, g4', rfl, g5⟩⟩
      | j + 2, hi => simp at hi
theorem l_entryStore {t : TypeId} {ag : Option Nat} {z : List C} {X Y V : Operand} {x y v : Opd} (hI : I = ints) (hop : o.op = .entryStore t X Y V) (ht0 : mapTyI P t = some (ag, z)) (ho : opd X = some x) (ho' : opd Y = some y) (hv : opd V = some v) (hA : At E m w ts a) (h9 : Holds P I p (evOp I er wr (.entryStore ag x y v) ts m k)) : LRes P I p E m w wr a o k Q := by
  obtain ⟨ht, hag⟩ := mapTyI_inv ht0
  obtain ⟨kt, et, zv, t1, t2, t3, t4, t5⟩ := mapTy_spec (P := P) (I := I) (p := p) ht
  obtain ⟨c, hc, h⟩ := evC_inv ho hA h9
  obtain ⟨s, hs, h1⟩ := evC_inv ho' hA h
  clear h
  obtain ⟨av, hav, hne, h2⟩ := evV_inv hv hA h1
  clear h1
  obtain ⟨-, b, l, a_, rfl, hb, hρ, hX, hat, h⟩ := mapOf_inv hA.sat hc h2
  clear h2
  obtain ⟨es, cl, q1, q2, q3, q4, q5⟩ := hat.keys
  split at h
  · rename_i b' key gs hW hg hf
    split at h
    · rename_i hbb
      obtain rfl : b = b' := by simpa using hbb
      have hva := (fits_rep hf hg hav).sy
      rcases hs with hs | ⟨_, a', base, born, es', c', s1, s2, s3, i, e, s4, s5, s6⟩
      · cases hs
      rw [hρ] at s1
      cases s1
      rw [q1] at s3
      cases s3
      have hm : I.mset = mset := by rw [hI]; rfl
      rw [hm] at h
      intro K hK
      unfold Oper.wp
      have hix : es.findIdx? (fun e => (e.born : Int) == (born : Int)) = some i := by
        rw [Array.findIdx?_eq_some_iff_getElem]
        obtain ⟨hlt, hge⟩ := Array.getElem?_eq_some_iff.1 s4
        refine ⟨hlt, by rw [hge]; simp [s5], fun j hj => ?_⟩
        have hjs : j < es.size := by omega
        simp only [beq_iff_eq, Int.ofNat_inj]
        intro hb'
        have := q4 j i es[j] e (Array.getElem?_eq_getElem hjs) s4 (.inl (by rw [s5]; simpa using hb'))
        omega
      have hkv : kvIs ag key.val (.int .i64 key.val) := (kvIs_int hag).2 rfl
      rcases find_spec t2 hkv l es.toList q2 with ⟨g1, g2, g3, g4⟩ | ⟨i', row, e', g1, g2, g3, g4, g5, g6⟩
      · exact absurd s6 (g4 e (List.mem_of_getElem? (by simpa using s4)))
      · have g4' : es[i']? = some e' := by simpa using g4
        obtain rfl : i' = i := q4 i' i e' e g4' s4 (.inr (by rw [g5, s6]))
        rw [s4] at g4'
        cases g4'
        rw [g6] at h
        have hmod : (es.modify i' fun e => { e with val := a.eval V }) = es.modify i' fun e => { e with key := .int .i64 key.val, val := a.eval V } := by
          apply Array.ext_getElem?
          intro j
          rw [Array.getElem?_modify, Array.getElem?_modify]
          by_cases hij : i' = j
          · subst hij
            simp [s4, s6]
          · simp [hij]
        have hg := map_grow (Wt := fun b => okW wr b = true) (l' := l.set i' (.int .i64 (.sym key.val) :: gs.map G.sy)) hA.sat hb hρ hW q1 (es' := es.modify i' fun e => { e with key := .int .i64 key.val, val := a.eval V }) (c' := cl) (fun i e h => modify_keep (fun e he => by rw [s4] at he; cases he; exact ⟨s6.symm, rfl⟩) i e h) (fun hF => map_set (z := .sym key.val) hkv hat q1 s4 s6 hF (by rw [vag_id hag]; exact hva))
        have hrun : (execOp a.eval o).run P w = .ok .skip { w with heap := w.heap.setIfInBounds a_ (.map (es.modify i' fun e => { e with key := .int .i64 key.val, val := a.eval V }) cl) } := by
          rw [← hmod]
          simp [execOp, hop, hX, s2, Instr.entryStore, MapKept.run_getObj_map q1, hix, MapKept.run_setObj_map _ q1, Result.andThen, asInt, asIntOf]
        rw [hrun]
        exact hK _ undef _ _ _ h hg.1 hg.2 (.inl rfl)
    · exact (holds_fail h).elim
  · exact (holds_fail h).elim
theorem l_lenMap {t kt et ty : TypeId} {X : Operand} {x : Opd} {ats : Array TypeId} (hI : I = ints) (hop : o.op = .call { callee := .builtin .len, args := #[X], argTypes := ats }) (h0 : ats[0]? = some t) (ht : P.underlying t = some (.map kt et)) (ho : opd X = some x) (hA : At E m w ts a) (h9 : Holds P I p (evOp I er wr (.lenMap x) ts m k)) : LRes P I p E m w wr a o k Q := by
  obtain ⟨c, hc, h⟩ := evC_inv ho hA h9
  split at h
  · rename_i b
    split at h
    · rename_i ag l hb
      rcases hc with hc | ⟨_, a_, base, h1, h2⟩
      · cases hc
      obtain ⟨a', e, _, hat⟩ := hA.sat.maps b ag l hb
      rw [e] at h1
      cases h1
      obtain ⟨es, cl, q1, q2, _⟩ := hat.keys
      have hl : (I.ofNat (I.len l) : Int) = (es.size : Int) := by
        rw [hI]
        show ((l.length : Nat) : Int) = _
        rw [← q2.1]
        simp
      intro K hK
      unfold Oper.wp
      have hrun : (execOp a.eval o).run P w = .ok (.value (.int .i64 (es.size : Int))) w := by
        simp [execOp, hop, resolve, invoke, builtin, h2, Builtin.len_, h0, run_underlying ht, MapKept.run_getObj_map q1, goInt]
      rw [hrun]
      refine hK _ _ _ _ _ h (Grow.refl _ _ _ _) hA.sat (.inr ?_)
      rw [← hl]
      exact .int .i64 (.sym _)
    · exact (holds_fail h).elim
  · exact (holds_fail h).elim
/-! ### Copies, bytes as a text -/
theorem run_copy0 {dT e ty es : Nat} {ats : Array TypeId} (h0 : ats[0]? = some dT) (hu : P.underlying dT = some (.slice e)) (hs : size? P e = some es) (A1 A2 : Option Addr) (n c n2 c2 : Nat) (hn : Nat.min n2 n = 0) (w : World) :
    (Builtin.copy_ ats ty #[.slice A1 n c, .slice A2 n2 c2]).run P w = .ok (goInt 0) w := by
  unfold size? at hs
  cases hq : P.info? e with
  | none => simp [hq] at hs
  | some i =>
    have hl : ∀ (x : Addr), (loadCells x 0).run P w = .ok #[] w := fun x => by simpa using run_loadCells_list (P := P) w x [] (by simp)
    cases A1 <;> cases A2 <;> simp [Builtin.copy_, h0, run_underlying hu, Builtin.lenOf, Builtin.firstCells, sizeOf, typeInfo, hq, hn, storeCells, hl]
theorem run_copy_flat {dT e ty es : Nat} {ats : Array TypeId} (h0 : ats[0]? = some dT) (hu : P.underlying dT = some (.slice e)) (hs : size? P e = some es) (b o n c : Nat) (A2 : Addr) (n2 c2 : Nat) (cs : List Value) (hn : cs.length = Nat.min n2 n * es) (w : World)
    (hsrc : ∀ (j : Nat) (v : Value), cs[j]? = some v → w.cell? (A2.add j) = some v) (hc : ∀ j, j < cs.length → (w.cell? ⟨b, o + j, none⟩).isSome = true) (hf : ∀ j, j < cs.length → w.frozen? ⟨b, o + j, none⟩ = false) (h1 : ∀ v ∈ cs, v.oneCell' = true) :
    (Builtin.copy_ ats ty #[.slice (some ⟨b, o, none⟩) n c, .slice (some A2) n2 c2]).run P w = .ok (goInt (Nat.min n2 n : Nat)) (w.setCells b o cs) := by
  have hl := run_loadCells_list (P := P) w A2 cs hsrc
  have hst := run_storeCells_cells (P := P) b o cs 0 w (by simpa using hc) (by simpa using hf) h1
  unfold size? at hs
  cases hq : P.info? e with
  | none => simp [hq] at hs
  | some i =>
    have hi : i.size = es := by simpa [hq] using hs
    rw [hn] at hl
    simp [Builtin.copy_, h0, run_underlying hu, Builtin.lenOf, Builtin.firstCells, sizeOf, typeInfo, hq, hi, hl, hst]
theorem mn_val (x y : Nat) : ints.mn (ints.ofNat x) (ints.ofNat y) = ((Nat.min y x : Nat) : Int) := by
  show (if ((y : Nat) : Int) < (x : Nat) then ((y : Nat) : Int) else (x : Nat)) = _
  show _ = ((min y x : Nat) : Int)
  split <;> (rw [Nat.min_def]; split <;> omega)
theorem set_self {m : Mem} {b : Nat} {blk : Blk} (hb : m[b]? = some blk) : m.set b blk = m := by
  apply List.ext_getElem?
  intro q
  rw [List.getElem?_set]
  by_cases hq : b = q
  · subst hq
    rw [hb]
    simp [(List.getElem?_eq_some_iff.1 hb).1]
  · simp [hq]
/-- Elements are laid over others of a live block. -/
theorem cpy_core {dT e es : Nat} {ats : Array TypeId} {X Y : Operand} (hI : I = ints) (hop : o.op = .call { callee := .builtin .copy, args := #[X, Y], argTypes := ats }) (h0 : ats[0]? = some dT) (hu : P.underlying dT = some (.slice e)) (hs : size? P e = some es) (hes : 0 < es)
    (hA : At E m w ts a) {b a_ base off c i n : Nat} {l src : List (List G)} (hb : m[b]? = some (.sym es l)) (hρ : E.ρ b = some (a_, base)) (hW : okW wr b = true) (hX : a.eval X = .slice (some (at_ a_ off)) n c) (hoff : 0 < c → off = base + i * es) (hc : n ≤ c) (hin : i + n ≤ l.length)
    (hR : Reads E w es src (a.eval Y)) (h : Holds P I p (k (.one (.c (.g (.int .i64 (.sym (Nat.min src.length n : Nat)))))) (m.set b (.sym es (l.take i ++ src.take n ++ l.drop (i + min n src.length)))))) : LRes P I p E m w wr a o k Q := by
  obtain ⟨A2, c2, hY, hc2, hw2, hR⟩ := hR
  intro K hK
  unfold Oper.wp
  rcases hA.sat.rep b _ hb trivial with ⟨q, _⟩ | ⟨a', base', q, g1, g2, g3⟩
  · rw [q] at hρ; cases hρ
  rw [q] at hρ
  cases hρ
  have hz : Nat.min src.length n = 0 → Oper.upon P o a K Q ((execOp a.eval o).run P w) := fun h0' => by
    have hrun : (execOp a.eval o).run P w = .ok (.value (goInt 0)) w := by
      simp only [execOp, hop, resolve, invoke, builtin]
      simp [hX, hY, run_copy0 (ty := o.type) h0 hu hs (some (at_ a_ off)) A2 n c src.length c2 h0' w]
    have hl : l.take i ++ src.take n ++ l.drop (i + min n src.length) = l := by
      rw [Nat.min_comm, show min src.length n = 0 from h0', Nat.add_zero]
      have : src.take n = [] := by
        rw [List.eq_nil_iff_length_eq_zero, List.length_take, Nat.min_comm]
        exact h0'
      rw [this, List.append_nil, List.take_append_drop]
    rw [hl, h0'] at h
    have hm : m.set b (.sym es l) = m := by
      apply List.ext_getElem?
      intro q
      rw [List.getElem?_set]
      by_cases hq : b = q
      · subst hq
        rw [hb]
        simp [(List.getElem?_eq_some_iff.1 hb).1]
      · simp [hq]
    rw [hm] at h
    rw [hrun]
    exact hK _ _ _ _ _ h (Grow.refl _ _ _ _) hA.sat (.inr (.int .i64 (.sym _)))
  rcases hR with rfl | ⟨a2, off2, rfl, -, hcell⟩
  · exact hz (by simp)
  by_cases hmin : Nat.min src.length n = 0
  · exact hz hmin
  have hmle : Nat.min src.length n ≤ n := Nat.min_le_right _ _
  have hmls : Nat.min src.length n ≤ src.length := Nat.min_le_left _ _
  have hoff := hoff (by omega)
  obtain ⟨us, u1, u2, u3, u4⟩ := flat_cells (w := w) (E := E) hw2 hes hcell
  obtain ⟨N, hN⟩ : ∃ N, N = Nat.min src.length n := ⟨_, rfl⟩
  rw [← hN] at hmle hmls hmin h
  have hNe : N * es ≤ us.length := by rw [u1]; exact Nat.mul_le_mul_right es hmls
  obtain ⟨cs, hcs⟩ : ∃ cs, cs = us.take (N * es) := ⟨_, rfl⟩
  have hcl : cs.length = N * es := by rw [hcs, List.length_take]; omega
  have hcg : ∀ (j : Nat) (v : Value), cs[j]? = some v → us[j]? = some v := fun j v hj => by
    rw [hcs, List.getElem?_take] at hj
    split at hj
    · exact hj
    · cases hj
  have hlen : l.length * es = i * es + (l.length - i) * es := by rw [← Nat.add_mul]; congr 1; omega
  have hfit : i * es + N * es ≤ l.length * es := by rw [← Nat.add_mul]; exact Nat.mul_le_mul_right es (by omega)
  have hth : ∀ j, j < cs.length → (w.cell? ⟨a_, off + j, none⟩).isSome = true ∧ w.frozen? ⟨a_, off + j, none⟩ = false := fun j hj => by
    have := g1 (i * es + j) (by simp [Blk.rows, Blk.es]; omega)
    rw [hoff, Nat.add_assoc]
    exact this
  have hrun : (execOp a.eval o).run P w = .ok (.value (goInt (N : Nat))) (w.setCells a_ off cs) := by
    have := run_copy_flat (P := P) (ty := o.type) h0 hu hs a_ off n c (at_ a2 off2) src.length c2 cs (by rw [hcl, hN]) w (fun j v hj => by
      rw [at_add]
      exact u2 j v (hcg j v hj)) (fun j hj => (hth j hj).1) (fun j hj => (hth j hj).2) (fun v hv => u3 v (by rw [hcs] at hv; exact List.mem_of_mem_take hv))
    simp only [execOp, hop, resolve, invoke, builtin]
    rw [← hN] at this
    simp [hX, hY]
    unfold at_ at this ⊢
    rw [this]
    rfl
  obtain ⟨k1, k2, k3, k4, k5⟩ := setCells_keep w a_ cs off w
  have hmin' : min n src.length = N := by rw [hN]; exact Nat.min_comm _ _
  rw [hmin'] at h
  have htn : (src.take n).length = N := by rw [List.length_take]; exact hmin'
  have hti : (l.take i).length = i := by rw [List.length_take]; omega
  have hg := write_grow (w' := w.setCells a_ off cs) (Wt := fun b => okW wr b = true) hA.sat hb trivial (blk' := .sym es (l.take i ++ src.take n ++ l.drop (i + N))) trivial q hW k1 k2 k3 k4 k5 (stays_setCells _ _ _ _) (by simp only [Blk.rows, List.length_map, List.length_append, List.length_drop, htn, hti]; omega) rfl (fun r row hr => by
    have old : ∀ (row : List C), (l.map fun r => r.map C.g)[r]? = some row → (r < i ∨ i + N ≤ r) → row.length = es ∧ ∀ (j : Nat) (x : C), row[j]? = some x → ∃ u, (w.setCells a_ off cs).cell? (at_ a_ (base + (r * es + j))) = some u ∧ CRep E m w x u := fun row hr hlt => by
      obtain ⟨h1, h2⟩ := g3 r row hr
      refine ⟨h1, fun j x hj => ?_⟩
      obtain ⟨u, q1, q2⟩ := h2 j x hj
      refine ⟨u, ?_, q2⟩
      have hjl : j < es := by
        have : j < row.length := (List.getElem?_eq_some_iff.1 hj).1
        have h1' : row.length = es := h1
        omega
      rw [World.cell?_setCells_out a_ _ _ w _ (fun _ _ => ?_)]
      · exact q1
      · simp only [at_, hcl]
        rcases hlt with hlt | hlt
        · left
          have := Nat.mul_le_mul_right es (show r + 1 ≤ i from hlt)
          rw [Nat.add_mul] at this
          omega
        · right
          have := Nat.mul_le_mul_right es hlt
          rw [Nat.add_mul] at this
          omega
    simp only [Blk.rows, Blk.es, List.map_append] at hr ⊢
    rw [List.getElem?_append] at hr
    split at hr
    · rename_i hlt1
      simp only [List.length_append, List.length_map, hti, htn] at hlt1
      rw [List.getElem?_append] at hr
      split at hr
      · rename_i hlt2
        simp only [List.length_map, hti] at hlt2
        refine old row ?_ (.inl hlt2)
        rw [List.map_take, List.getElem?_take] at hr
        rw [if_pos hlt2] at hr
        exact hr
      · rename_i hge
        simp only [List.length_map, hti] at hr hge
        rw [List.getElem?_map] at hr
        obtain ⟨sr, hsr, rfl⟩ := Option.map_eq_some_iff.1 hr
        rw [List.getElem?_take] at hsr
        split at hsr
        · rename_i hri
          have hwr := hw2 _ _ hsr
          refine ⟨by simpa using hwr, fun j x hj => ?_⟩
          rw [List.getElem?_map] at hj
          obtain ⟨g, hg, rfl⟩ := Option.map_eq_some_iff.1 hj
          obtain ⟨u, q1, q2⟩ := u4 (r - i) sr j g hsr hg
          have hjl : j < es := by rw [← hwr]; exact (List.getElem?_eq_some_iff.1 hg).1
          have hidx : (r - i) * es + j < cs.length := by
            rw [hcl]
            have := Nat.mul_le_mul_right es (show r - i + 1 ≤ N by omega)
            rw [Nat.add_mul] at this
            omega
          have := World.cell?_setCells_in a_ cs off w (fun j hj => (hth j hj).1) ((r - i) * es + j) hidx
          refine ⟨u, ?_, q2⟩
          have hv : cs[(r - i) * es + j] = u := by
            have h1 : cs[(r - i) * es + j]? = some u := by
              rw [hcs, List.getElem?_take, if_pos (by rw [hcl] at hidx; exact hidx)]
              exact q1
            rw [List.getElem?_eq_getElem hidx] at h1
            exact Option.some.inj h1
          rw [hv] at this
          rw [← this]
          unfold at_
          congr 2
          rw [hoff]
          have : r * es = i * es + (r - i) * es := by rw [← Nat.add_mul]; congr 1; omega
          omega
        · cases hsr
    · rename_i hge
      simp only [List.length_append, List.length_map, hti, htn] at hr hge
      refine old row ?_ (.inr (by omega))
      rw [List.map_drop, List.getElem?_drop, show i + N + (r - (i + N)) = r by omega] at hr
      exact hr)
  rw [hrun]
  exact hK _ _ _ _ _ h hg.1 hg.2 (.inr (.int .i64 (.sym _)))
theorem l_copy {dT e es : Nat} {ats : Array TypeId} {X Y : Operand} {x y : Opd} (hI : I = ints) (hop : o.op = .call { callee := .builtin .copy, args := #[X, Y], argTypes := ats }) (h0 : ats[0]? = some dT) (hu : P.underlying dT = some (.slice e)) (hs : size? P e = some es) (hes : 0 < es)
    (ho : opd X = some x) (ho' : opd Y = some y) (hA : At E m w ts a) (h9 : Holds P I p (evOp I er wr (.copy es x y) ts m k)) : LRes P I p E m w wr a o k Q := by
  obtain ⟨c, hc, h8⟩ := evC_inv ho hA h9
  obtain ⟨d, hd, h⟩ := evC_inv ho' hA h8
  split at h
  · rename_i src hsrc
    have hR := rowsOf_reads hI hA.sat hsrc hd
    unfold cpy at h
    split at h
    · rename_i b es' cap
      split at h
      · rename_i l he hW hb
        obtain rfl : es = es' := by simpa using he
        rcases hc with hc | ⟨_, ho1, hc⟩
        · cases hc
        obtain ⟨e1, _, hc⟩ := hc _ hb trivial
        have e1 : (Blk.sym _ l).es = es := e1
        simp only [Blk.es] at e1
        subst e1
        rcases hc with ⟨r1, r2⟩ | ⟨a_, base, c', r1, r2, r3, r4, r5⟩
        · -- no row at all
          rcases hA.sat.rep b _ hb trivial with ⟨_, q⟩ | ⟨a', base', q, _⟩
          · have hl : l = [] := by simpa [Blk.rows] using q
            subst hl
            obtain ⟨A2, c2, hY, hc2, hw2, _⟩ := hR
            intro K hK
            unfold Oper.wp
            have hrun : (execOp a.eval o).run P w = .ok (.value (goInt 0)) w := by
              simp only [execOp, hop, resolve, invoke, builtin]
              simp [r2, hY, run_copy0 (ty := o.type) h0 hu hs none A2 0 0 src.length c2 (Nat.min_zero _) w]
            subst hI
            rw [show ints.cpy [] 0 (ints.len []) src = [] from by simp [ints], set_self hb] at h
            rw [hrun]
            refine hK _ _ _ _ _ h (Grow.refl _ _ _ _) hA.sat (.inr ?_)
            have : (ints.mn (ints.ofNat (ints.len [])) (ints.ofNat (ints.len src))) = 0 := by
              rw [mn_val]
              simp [ints]
            rw [this]
            exact .int .i64 (.sym 0)
          · rw [q] at r1; cases r1
        · refine cpy_core hI hop h0 hu hs hes hA hb r1 hW r2 (i := 0) (fun _ => by simp) r3 (by simp [Blk.rows]) hR (n := (Blk.sym _ l).rows.length) ?_
          subst hI
          rw [mn_val] at h
          simpa [ints, Blk.rows] using h
      · exact (holds_fail h).elim
    · rename_i b i es' n cap
      split at h
      · rename_i l he hW hb
        obtain rfl : es = es' := by simpa using he
        rcases hc with hc | ⟨_, ho1, hc⟩
        · cases hc
        obtain ⟨e1, e2, _, hc⟩ := hc _ hb trivial
        have e1 : (Blk.sym _ l).es = es := e1
        simp only [Blk.es] at e1
        subst e1
        rcases hc with ⟨r1, r2, r0⟩ | ⟨a_, base, c', off, r1, r2, r3, r4, r5, r6⟩
        · rcases hA.sat.rep b _ hb trivial with ⟨_, q⟩ | ⟨a', base', q, _⟩
          · have hl : l = [] := by simpa [Blk.rows] using q
            subst hl
            obtain ⟨A2, c2, hY, hc2, hw2, _⟩ := hR
            intro K hK
            unfold Oper.wp
            have hrun : (execOp a.eval o).run P w = .ok (.value (goInt 0)) w := by
              simp only [execOp, hop, resolve, invoke, builtin]
              simp [r2, hY, run_copy0 (ty := o.type) h0 hu hs none A2 0 0 src.length c2 (Nat.min_zero _) w]
            subst hI
            rw [show ints.cpy [] i.val n.val src = [] from by simp [ints, r0], set_self hb] at h
            rw [hrun]
            refine hK _ _ _ _ _ h (Grow.refl _ _ _ _) hA.sat (.inr ?_)
            have : (ints.mn (ints.ofNat n.val) (ints.ofNat (ints.len src))) = 0 := by
              rw [mn_val, r0]
              simp
            rw [this]
            exact .int .i64 (.sym 0)
          · rw [q] at r1; cases r1
        · refine cpy_core hI hop h0 hu hs hes hA hb r1 hW r2 (i := i.val) r3 r4 (by simpa [Blk.rows] using e2) hR ?_
          subst hI
          rw [mn_val] at h
          exact h
      · exact (holds_fail h).elim
    · exact (holds_fail h).elim
  · exact (holds_fail h).elim
theorem l_b2s {s d e : TypeId} {X : Operand} {x : Opd} (hI : I = ints) (hop : o.op = .convert s d X) (hs : P.underlying s = some (.slice e)) (he : P.underlying e = some (.int .u8)) (hd : P.underlying d = some .string) (ho : opd X = some x) (hA : At E m w ts a) (h9 : Holds P I p (evOp I er wr (.b2s x) ts m k)) : LRes P I p E m w wr a o k Q := by
  obtain ⟨c, hc, h⟩ := evC_inv ho hA h9
  split at h
  · rename_i l hl
    cases h with
    | bytes hu h =>
    obtain ⟨A2, c2, hY, hc2, hw2, hR⟩ := rowsOf_reads hI hA.sat hl hc
    intro K hK
    unfold Oper.wp
    have fin : (execOp a.eval o).run P w = .ok (.value (.string (strOfNums (l.map gNum)))) w → Oper.upon P o a K Q ((execOp a.eval o).run P w) := fun hrun => by
      rw [hrun]
      refine hK _ _ _ _ _ h (Grow.refl _ _ _ _) hA.sat (.inr ?_)
      rw [hI]
      exact .str _
    rcases hR with rfl | ⟨a2, off2, rfl, -, hcell⟩
    · refine fin ?_
      have h0 : (convert s d (.slice A2 0 c2)).run P w = .ok (.string (strOfNums [])) w := by
        cases A2 with
        | none => exact run_convert_bytes_nil w s e hs he 0 c2 d hd
        | some A2 =>
          rw [run_convert_bytes_string w s d e _ 0 c2 hs he hd]
          have := run_loadCells_list (P := P) w A2 [] (by simp)
          simp at this
          simp [Conv.bytesToString, this, strOfNums]
          rfl
      simp [execOp, hop, hY, h0]
    · refine fin ?_
      have := run_convert_bytes_arg w s e hs he a2 off2 l.length c2 (l.map gNum) (by simp) (fun i hi => by
        obtain ⟨z, hz⟩ := hu i _ (List.getElem?_eq_getElem hi)
        obtain ⟨u, q1, q2⟩ := hcell i _ 0 (.int .u8 z) (List.getElem?_eq_getElem hi) (by rw [hz]; rfl)
        generalize hu' : u = u' at q2
        cases q2
        subst hu'
        have hg : (l.map gNum).getD i 0 = z.val := by
          rw [List.getD_eq_getElem?_getD, List.getElem?_map, List.getElem?_eq_getElem hi, hz]
          rfl
        rw [hg]
        simp only [Nat.mul_one, Nat.add_zero] at q1
        exact q1) d hd
      have h0 : (convert s d (.slice (some (at_ a2 off2)) l.length c2)).run P w = .ok (.string (strOfNums (l.map gNum))) w := this
      simp [execOp, hop, hY, h0]
  · exact (holds_fail h).elim
/-- A text that is known, as bytes. -/
theorem l_s2b {s d e : TypeId} {b : ByteArray} (hop : o.op = .convert s d (.const (.string b))) (hs : P.underlying s = some .string) (hd : P.underlying d = some (.slice e)) (he : P.underlying e = some (.int .u8)) (hA : At E m w ts a) (h : Holds P I p (evOp I er wr (.s2b (b.data.toList.map UInt8.toNat)) ts m k)) : LRes P I p E m w wr a o k Q := by
  intro K hK
  have hrun0 := run_bytes_of_string (P := P) w s d e b hs hd he
  have hge := grownCap_ge w b.size 0 e
  generalize grownCap w b.size 0 e = cp at hrun0 hge
  obtain ⟨cs, hcs⟩ : ∃ cs, cs = bytesRow b cp := ⟨_, rfl⟩
  rw [← hcs] at hrun0
  have hsz : cs.size = cp := by
    rw [hcs]
    have : b.data.size = b.size := rfl
    simp [bytesRow]
    omega
  have hget : ∀ (i : Nat) (n : Nat), (b.data.toList.map UInt8.toNat)[i]? = some n → cs[i]? = some (.int .u8 (n : Int)) := fun i n hi => by
    rw [List.getElem?_map] at hi
    obtain ⟨c, hc, rfl⟩ := Option.map_eq_some_iff.1 hi
    have hlt := (List.getElem?_eq_some_iff.1 hc).1
    rw [hcs, bytesRow, Array.getElem?_append_left (by simpa using hlt), Array.getElem?_map]
    rw [Array.getElem?_toList] at hc
    rw [hc]
    rfl
  obtain ⟨w', hw'⟩ : ∃ w', w' = w.drew.alloc (.cells cs e (cs.size, cs.size + 1)) := ⟨_, rfl⟩
  rw [← hw'] at hrun0
  have hnew : w'.heap[w.heap.size]? = some (.cells cs e (cs.size, cs.size + 1)) := by rw [hw']; exact heap_alloc_new w.drew _
  have hold : ∀ k, k < w.heap.size → w'.heap[k]? = w.heap[k]? := fun k hk => by rw [hw']; exact heap_alloc_old w.drew _ hk
  have hcell : ∀ off, w'.cell? (at_ w.heap.size off) = cs[off]? := fun off => by simp [World.cell?, at_, hnew]
  have hth : ∀ n, n ≤ cs.size → w'.there w.heap.size 0 n := fun n hn j hj => by
    have h1 : w'.cell? ⟨w.heap.size, 0 + j, none⟩ = cs[0 + j]? := hcell (0 + j)
    rw [h1]
    refine ⟨by simp; omega, ?_⟩
    simp only [World.frozen?, hnew]
    simp
    try omega
  have hg := add_grow (Wt := fun b => okW wr b = true) (w' := w') hA.sat (blk := .sym 1 ((b.data.toList.map UInt8.toNat).map fun (n : Nat) => [.int .u8 (.sym (n : Int))])) (r := some (w.heap.size, 0)) (by rw [hw']; simp) (by rw [hw']; rfl) (by rw [hw']; rfl) (by rw [hw']; rfl) (stays_below hold) hold (fun a_ base e => by cases e; exact Nat.le_refl _)
    (fun _ => .inr ⟨w.heap.size, 0, rfl, hth _ (by simp only [Blk.rows, Blk.es, List.length_map]; have : b.data.size = b.size := rfl; simp; omega), (Array.getElem?_eq_some_iff.1 hnew).1, fun i row hi => by
      simp only [Blk.rows, List.getElem?_map] at hi
      obtain ⟨r, hr, rfl⟩ := Option.map_eq_some_iff.1 hi
      obtain ⟨n, hn, rfl⟩ := Option.map_eq_some_iff.1 hr
      refine ⟨rfl, fun j x hj => ?_⟩
      cases j with
      | zero =>
        simp at hj
        subst hj
        refine ⟨_, ?_, .int .u8 (.sym (n : Int))⟩
        rw [hcell]
        simp only [Blk.es, Nat.zero_add, Nat.mul_one, Nat.add_zero]
        exact hget i n (by rw [List.getElem?_map]; exact hn)
      | succ j => simp at hj⟩)
  have hrun : (execOp a.eval o).run P w = .ok (.value (.slice (some ⟨w.heap.size, 0, none⟩) b.size cp)) w' := by
    simp [execOp, hop, Act.eval, hrun0]
  unfold Oper.wp
  rw [hrun]
  refine hK _ _ _ _ _ h hg.1 hg.2 (.inr ?_)
  exact row_new (if_pos rfl) rfl (by simp [Blk.rows]; try rfl) (fun c' hc' => by cases hc') hge (fun c' hc' => by cases hc') (hth _ (by show cp * 1 ≤ cs.size; omega))
/-- Noughts behind nil. -/
theorem l_appendZ {t u e : TypeId} {kn : IntKind} {i : TypeInfo} {z : List C} {X Y : Operand} {x y : Opd} (hI : I = ints) (hop : o.op = .call { callee := .builtin .append, args := #[X, Y], argTypes := #[t, u] }) (ht : P.underlying t = some (.slice e)) (hu : P.underlying u = some (.int kn)) (hi : P.info? e = some i) (hz : zero P e = some z) (h0 : 0 < i.size)
    (ho : opd X = some x) (ho' : opd Y = some y) (hA : At E m w ts a) (h : Holds P I p (evOp I er wr (.appendZ i.size i.bytes z x y) ts m k)) : LRes P I p E m w wr a o k Q := by
  obtain ⟨c, hc, h⟩ := evC_inv ho hA h
  obtain ⟨kq, n, hn, h⟩ := evZ_inv ho' hA h
  split at h
  · rename_i g hg _
    cases h with
    | nz hne h =>
    cases h with
    | size n' e1 e2 h =>
    obtain ⟨i', zv, h1, h2, h3, c1, c2⟩ := zero_rep hz E m w
    rw [hi] at h1
    cases h1
    have hX : a.eval X = .slice none 0 0 := by
      rcases hc with hc | hc
      · cases hc
      · generalize a.eval X = v at hc
        cases hc
        rfl
    rw [e1] at hn
    have hpos : 0 < n' := by omega
    have hb48 : n' * i.bytes ≤ 281474976710656 := by omega
    have hzl : z.length = i.size := by rw [← c1.1, h3]
    have hge := grownCap_ge w n' 0 e
    cases h with
    | most e3 e4 h =>
    have h63 : (n' : Int) ≤ 9223372036854775807 := by omega
    have hrun := Lib.run_append_nil_zeros (P := P) w t u o.type e i zv kq kn ht hu hi h2 n' hpos h0 h63 hb48
    generalize grownCap w n' 0 e = cp at hrun hge
    have hzg := grounds_map hg
    intro K hK
    obtain ⟨cs, hcs⟩ : ∃ cs, cs = Builtin.zeroCells zv.cells n' ++ Builtin.zeroCells zv.cells (cp - n') := ⟨_, rfl⟩
    rw [← hcs] at hrun
    have hsz : cs.size = cp * i.size := by
      rw [hcs]
      simp only [Builtin.zeroCells, Array.size_append, Array.size_map, Array.size_range, h3]
      rw [← Nat.add_mul]
      congr 1
      omega
    have hle : n' * i.size ≤ cp * i.size := Nat.mul_le_mul_right _ hge
    subst hI
    have hgr := new_grow (Wt := fun b => okW wr b = true) (w' := w.drew.alloc (.cells cs e)) (blk := .sym i.size (List.replicate n' (g.map G.sy))) (g := w.heap.size) (cs := cs) (ty := e) hA.sat trivial (Nat.le_refl _) (heap_alloc_new w.drew _) (fun k hk => heap_alloc_old w.drew _ hk) (by simp) rfl rfl rfl (by simp [Blk.rows, Blk.es]; omega) (fun q row hq => by
      simp only [Blk.rows, List.map_replicate, List.getElem?_replicate] at hq
      split at hq
      · rename_i hqn
        cases hq
        rw [map_sy hzg]
        refine ⟨by simp [Blk.es, hzl], fun j x hj => ?_⟩
        rw [List.getElem?_map] at hj
        obtain ⟨y, hy, rfl⟩ := Option.map_eq_some_iff.1 hj
        obtain ⟨u, q1, q2⟩ := zcell c1 hzl hqn hy
        refine ⟨u, ?_, C_sy q2⟩
        have hjl : j < i.size := by rw [← hzl]; exact (List.getElem?_eq_some_iff.1 hy).1
        have hlt : (q + 1) * i.size ≤ n' * i.size := Nat.mul_le_mul_right _ hqn
        rw [Nat.add_mul] at hlt
        rw [hcs, Array.getElem?_append_left (by simp only [Builtin.zeroCells, Array.size_map, Array.size_range, h3, Blk.es]; omega)]
        have : zv.cells.size = i.size := h3
        simp only [Builtin.zeroCells, Blk.es]
        rw [this] at q1 ⊢
        exact q1
      · cases hq)
    have hrun2 : (execOp a.eval o).run P w = .ok (.value (.slice (some ⟨w.heap.size, 0, none⟩) n' cp)) (w.drew.alloc (.cells cs e)) := by
      have := hrun
      simp [execOp, hop, resolve, invoke, builtin, hX, hn, this]
    unfold Oper.wp
    rw [hrun2]
    exact hK _ _ _ _ _ h hgr.1 hgr.2 (.inr (row_new (if_pos rfl) rfl (by simp [Blk.rows, ints]) (fun c' hc' => by cases hc') hge (fun c' hc' => by cases hc') (fun j hj => by
      have h1 : (w.drew.alloc (.cells cs e)).heap[w.heap.size]? = some (.cells cs e (0, 0)) := heap_alloc_new w.drew _
      have hj : j < cp * i.size := hj
      have h2 : (w.drew.alloc (.cells cs e)).cell? ⟨w.heap.size, 0 + j, none⟩ = cs[0 + j]? := by simp only [World.cell?, h1, Option.isSome_none, Bool.false_eq_true, if_false]
      rw [h2]
      exact ⟨by simp; omega, by simp only [World.frozen?, h1]; simp⟩)))
  · exact (holds_fail h).elim
end
end Go.Proofs.Ytccfcenhpmdemaa.E
