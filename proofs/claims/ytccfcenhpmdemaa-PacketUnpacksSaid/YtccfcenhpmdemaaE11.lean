/- Calls. -/
import Derived.Test.YtccfcenhpmdemaaE16
namespace Go.Proofs.Ytccfcenhpmdemaa.E
open Go
set_option linter.unusedVariables false
set_option linter.unusedSectionVars false

section
variable {P : Program} {I : Ints} {p : Nat} {E E1 : Env} {m m1 : Mem} {w w1 : World} {ts : List A} {a : Act}
theorem setAll_get : ∀ (σ : List Nat) (r m : List Blk) (id : Nat), σ.Nodup → (∀ b ∈ σ, b < m.length) → σ.length ≤ r.length → (∀ (i : Nat), σ[i]? = some id → (setAll m σ r)[id]? = r[i]?) ∧ (id ∉ σ → (setAll m σ r)[id]? = m[id]?) ∧ (setAll m σ r).length = m.length
  | [], r, m, id, _, _, _ => by
    have : setAll m [] r = m := by cases r <;> rfl
    exact ⟨fun i h => by simp at h, fun _ => by rw [this], by rw [this]⟩
  | b :: σ, [], m, id, _, _, hl => by simp at hl
  | b :: σ, x :: r, m, id, hn, hb, hl => by
    obtain ⟨h1, h2, h3⟩ := setAll_get σ r (m.set b x) id (List.nodup_cons.1 hn).2 (fun c hc => by simpa using hb c (by simp [hc])) (by simpa using hl)
    have hbn := (List.nodup_cons.1 hn).1
    refine ⟨fun i hi => ?_, fun hni => ?_, by simpa [setAll] using h3⟩
    · cases i with
      | zero =>
        simp at hi
        subst hi
        rw [setAll, h2 hbn, List.getElem?_set_self (hb b (by simp))]
        rfl
      | succ i => simpa [setAll] using h1 i (by simpa using hi)
    · simp at hni
      rw [setAll, h2 hni.2, List.getElem?_set_ne (fun e => hni.1 e.symm)]
theorem kill_get : ∀ (fz : List Nat) (m : List Blk) (id : Nat), (id ∈ fz → id < m.length → (kill m fz)[id]? = some .dead) ∧ (id ∉ fz → (kill m fz)[id]? = m[id]?) ∧ (kill m fz).length = m.length
  | [], m, id => ⟨fun h => by simp at h, fun _ => rfl, rfl⟩
  | b :: fz, m, id => by
    obtain ⟨h1, h2, h3⟩ := kill_get fz (m.set b .dead) id
    refine ⟨fun hi hl => ?_, fun hi => ?_, by simpa [kill] using h3⟩
    · by_cases hf : id ∈ fz
      · exact h1 hf (by simpa using hl)
      · simp [hf] at hi
        subst hi
        rw [kill, h2 hf, List.getElem?_set_self hl]
    · simp at hi
      rw [kill, h2 hi.2, List.getElem?_set_ne (fun e => hi.1 e.symm)]
/-- The memory behind a call, name by name. -/
theorem upMem_get {σ fz : List Nat} (hσ : σ.Nodup) (hb : ∀ b ∈ σ, b < m.length) (hl : σ.length ≤ m1.length) (hfz : ∀ b ∈ fz, b ∉ σ) (id : Nat) :
    (∀ (i : Nat), σ[i]? = some id → (upMem σ fz m m1)[id]? = (m1[i]?).map (Blk.up σ m.length)) ∧ (id < m.length → id ∉ σ → id ∈ fz → (upMem σ fz m m1)[id]? = some .dead) ∧ (id < m.length → id ∉ σ → id ∉ fz → (upMem σ fz m m1)[id]? = m[id]?) ∧
    (∀ (j : Nat), id = m.length + j → (upMem σ fz m m1)[id]? = (m1[σ.length + j]?).map (Blk.up σ m.length)) ∧ (upMem σ fz m m1).length = m.length + (m1.length - σ.length) := by
  obtain ⟨k1, k2, k3⟩ := kill_get fz m id
  obtain ⟨s1, s2, s3⟩ := setAll_get σ ((m1.map (Blk.up σ m.length)).take σ.length) (kill m fz) id hσ (fun b h => by rw [k3]; exact hb b h) (by simp; omega)
  have hlen : (setAll (kill m fz) σ ((m1.map (Blk.up σ m.length)).take σ.length)).length = m.length := by rw [s3, k3]
  refine ⟨fun i hi => ?_, fun h1 h2 h3 => ?_, fun h1 h2 h3 => ?_, fun j hj => ?_, ?_⟩
  · have hid : id < m.length := hb id (List.mem_of_getElem? hi)
    have hil : i < σ.length := (List.getElem?_eq_some_iff.1 hi).1
    simp only [upMem]
    rw [List.getElem?_append_left (by rw [hlen]; exact hid), s1 i hi, List.getElem?_take, if_pos hil, List.getElem?_map]
  · simp only [upMem]
    rw [List.getElem?_append_left (by rw [hlen]; exact h1), s2 h2, k1 h3 h1]
  · simp only [upMem]
    rw [List.getElem?_append_left (by rw [hlen]; exact h1), s2 h2, k2 h3]
  · simp only [upMem]
    rw [List.getElem?_append_right (by rw [hlen]; omega), hlen, List.getElem?_drop, List.getElem?_map]
    congr 2
    congr 1
    omega
  · simp only [upMem, List.length_append, hlen, List.length_drop, List.length_map]
theorem up_rows (σ : List Nat) (n : Nat) (b : Blk) : (b.up σ n).rows.length = b.rows.length ∧ (b.up σ n).es = b.es ∧ ((b.up σ n).live ↔ b.live) := by
  cases b <;> simp [Blk.up, Blk.rows, Blk.es, Blk.live]
/-- The env behind a call. -/
def Env.back (E E1 : Env) (n s : Nat) : Env where
  F := E1.F
  B := E.B
  ρ := fun id => if id < n then E.ρ id else E1.ρ (s + (id - n))
section leave
variable {σ fz : List Nat} {B : Nat → Prop} {m0 : Mem}
variable (hs : Sat E m w) (hσ : σ.Nodup) (hb : ∀ b ∈ σ, b < m.length) (hfz : ∀ b ∈ fz, b ∉ σ) (hm : Shape m σ m0) (hBσ : ∀ b, B b → b ∉ σ)
variable (hs1 : Sat E1 m1 w1) (hg : Grow (fun _ => True) (E.ren m σ fz B) m0 w E1 m1 w1)
include hs hσ hb hfz hm hBσ hs1 hg
theorem back_ρ (i : Nat) (hi : i < m1.length) : (E.back E1 m.length σ.length).ρ (up σ m.length i) = E1.ρ i ∧ up σ m.length i < (upMem σ fz m m1).length ∧ (upMem σ fz m m1)[up σ m.length i]? = (m1[i]?).map (Blk.up σ m.length) := by
  have hl : σ.length ≤ m1.length := by rw [← hm.len]; exact hg.len
  unfold up
  cases hq : σ[i]? with
  | some b =>
    have hbm := hb b (List.mem_of_getElem? hq)
    have hil : i < σ.length := (List.getElem?_eq_some_iff.1 hq).1
    obtain ⟨g1, g2, g3, g4, g5⟩ := upMem_get (m1 := m1) hσ hb hl hfz b
    refine ⟨?_, by rw [g5]; simp only; omega, g1 i hq⟩
    have h1 := hg.ρ i (by rw [hm.len]; exact hil)
    rw [h1]
    simp [Env.back, hbm, Env.ren, hq]
  | none =>
    have hil : σ.length ≤ i := by rw [List.getElem?_eq_none_iff] at hq; exact hq
    obtain ⟨g1, g2, g3, g4, g5⟩ := upMem_get (m1 := m1) hσ hb hl hfz (m.length + (i - σ.length))
    refine ⟨?_, by rw [g5]; simp only; omega, ?_⟩
    · simp only [Env.back]
      rw [if_neg (by omega)]
      congr 1
      omega
    · rw [g4 (i - σ.length) rfl]
      congr 2
      omega
theorem CRep.back {x : C} {u : Value} (hx : CRep E1 m1 w1 x u) (hf : x.free = true) : CRep (E.back E1 m.length σ.length) (upMem σ fz m m1) w1 (x.up σ m.length) u := by
  have hbk := back_ρ hs hσ hb hfz hm hBσ hs1 hg
  have live : ∀ (i : Nat) (blk' : Blk), i < m1.length → (upMem σ fz m m1)[up σ m.length i]? = some blk' → blk'.live → ∃ blk : Blk, m1[i]? = some blk ∧ blk.live ∧ blk'.rows.length = blk.rows.length ∧ blk'.es = blk.es := fun i blk' hi h hl => by
    rw [(hbk i hi).2.2] at h
    cases hq : m1[i]? with
    | none => simp [hq] at h
    | some blk =>
      simp [hq] at h
      subst h
      obtain ⟨r1, r2, r3⟩ := up_rows σ m.length blk
      exact ⟨blk, rfl, r3.1 hl, r1, r2⟩
  cases x with
  | any => exact hx
  | g x => exact hx
  | bor es l => cases hf
  | gp r j => cases hf
  | ptr b i es j =>
    obtain ⟨h1, a_, base, h2, h3⟩ := hx
    exact ⟨(hbk b h1).2.1, a_, base, by rw [(hbk b h1).1]; exact h2, h3⟩
  | row b es cap =>
    obtain ⟨h1, ho, h2⟩ := hx
    refine ⟨(hbk b h1).2.1, ho, fun blk' h hl => ?_⟩
    obtain ⟨blk, q1, q2, q3, q4⟩ := live b blk' h1 h hl
    rw [q3, q4, (hbk b h1).1]
    exact h2 blk q1 q2
  | sl b i es n cap =>
    obtain ⟨h1, ho, h2⟩ := hx
    refine ⟨(hbk b h1).2.1, ho, fun blk' h hl => ?_⟩
    obtain ⟨blk, q1, q2, q3, q4⟩ := live b blk' h1 h hl
    rw [q3, q4, (hbk b h1).1]
    exact h2 blk q1 q2
  | fn f l =>
    obtain ⟨us, h1, h2, h3⟩ := hx
    refine ⟨us, h1, by simp [h2], fun i b es j hi => ?_⟩
    rw [List.getElem?_map] at hi
    obtain ⟨⟨b0, es0, j0⟩, hi0, he⟩ := Option.map_eq_some_iff.1 hi
    cases he
    obtain ⟨h4, a_, base, h5, h6⟩ := h3 i b0 es0 j0 hi0
    exact ⟨(hbk b0 h4).2.1, a_, base, by rw [(hbk b0 h4).1]; exact h5, h6⟩
  | map b =>
    obtain ⟨h1, a_, base, h2, h3⟩ := hx
    exact ⟨(hbk b h1).2.1, a_, base, by rw [(hbk b h1).1]; exact h2, h3⟩
  | stamp b z =>
    obtain ⟨h1, a_, base, born, es, c, h2, h3⟩ := hx
    exact ⟨(hbk b h1).2.1, a_, base, born, es, c, by rw [(hbk b h1).1]; exact h2, h3⟩
theorem V1Rep.back {x : V1} {u : Value} (hx : V1Rep E1 m1 w1 x u) (hf : x.free = true) : V1Rep (E.back E1 m.length σ.length) (upMem σ fz m m1) w1 (x.up σ m.length) u := by
  cases x with
  | c x =>
    rcases hx with rfl | hx
    · exact .inl rfl
    · exact .inr (CRep.back hs hσ hb hfz hm hBσ hs1 hg hx hf)
  | agg l =>
    obtain ⟨cs, h1, h2, h3⟩ := hx
    refine ⟨cs, h1, by simpa using h2, fun i x hi => ?_⟩
    rw [List.getElem?_map] at hi
    cases hq : l[i]? with
    | none => simp [hq] at hi
    | some y =>
      simp [hq] at hi
      subst hi
      obtain ⟨u, q1, q2⟩ := h3 i y hq
      exact ⟨u, q1, CRep.back hs hσ hb hfz hm hBσ hs1 hg q2 (List.all_eq_true.1 hf y (List.mem_of_getElem? hq))⟩
theorem ARep.back {x : A} {u : Value} (hx : ARep E1 m1 w1 x u) (hf : x.free = true) : ARep (E.back E1 m.length σ.length) (upMem σ fz m m1) w1 (x.up σ m.length) u := by
  cases x with
  | one v => exact V1Rep.back hs hσ hb hfz hm hBσ hs1 hg hx hf
  | tup l =>
    obtain ⟨cs, h1, h2, h3⟩ := hx
    refine ⟨cs, h1, by simpa using h2, fun i x hi => ?_⟩
    rw [List.getElem?_map] at hi
    cases hq : l[i]? with
    | none => simp [hq] at hi
    | some y =>
      simp [hq] at hi
      subst hi
      obtain ⟨u, q1, q2⟩ := h3 i y hq
      exact ⟨u, q1, V1Rep.back hs hσ hb hfz hm hBσ hs1 hg q2 (List.all_eq_true.1 hf y (List.mem_of_getElem? hq))⟩
/-- Each live name behind the call: one of the callee's, or one that it has not seen. -/
theorem back_names {id : Nat} {blk' : Blk} (h : (upMem σ fz m m1)[id]? = some blk') (hl : blk'.live) :
    (∃ (i : Nat) (blk : Blk), i < m1.length ∧ id = up σ m.length i ∧ m1[i]? = some blk ∧ blk.live ∧ blk' = blk.up σ m.length ∧ (E.back E1 m.length σ.length).ρ id = E1.ρ i) ∨
    (id < m.length ∧ id ∉ σ ∧ id ∉ fz ∧ m[id]? = some blk' ∧ (E.back E1 m.length σ.length).ρ id = E.ρ id) := by
  have hl1 : σ.length ≤ m1.length := by rw [← hm.len]; exact hg.len
  obtain ⟨g1, g2, g3, g4, g5⟩ := upMem_get (m1 := m1) hσ hb hl1 hfz id
  have hidl : id < m.length + (m1.length - σ.length) := by rw [← g5]; exact (List.getElem?_eq_some_iff.1 h).1
  have fin : ∀ i, i < m1.length → id = up σ m.length i → (upMem σ fz m m1)[id]? = (m1[i]?).map (Blk.up σ m.length) → ∃ (i : Nat) (blk : Blk), i < m1.length ∧ id = up σ m.length i ∧ m1[i]? = some blk ∧ blk.live ∧ blk' = blk.up σ m.length ∧ (E.back E1 m.length σ.length).ρ id = E1.ρ i := by
    intro i hi e hq
    rw [h] at hq
    cases hq1 : m1[i]? with
    | none => simp [hq1] at hq
    | some blk =>
      simp [hq1] at hq
      subst hq
      refine ⟨i, blk, hi, e, hq1, (up_rows σ m.length blk).2.2.1 hl, rfl, ?_⟩
      rw [e]
      exact (back_ρ hs hσ hb hfz hm hBσ hs1 hg i hi).1
  by_cases hid : id < m.length
  · by_cases hσi : id ∈ σ
    · obtain ⟨i, hi⟩ := List.mem_iff_getElem?.1 hσi
      have hil : i < σ.length := (List.getElem?_eq_some_iff.1 hi).1
      exact .inl (fin i (by omega) (by simp [up, hi]) (g1 i hi))
    · by_cases hf : id ∈ fz
      · rw [g2 hid hσi hf] at h
        cases h
        exact hl.elim
      · rw [g3 hid hσi hf] at h
        exact .inr ⟨hid, hσi, hf, h, by simp [Env.back, hid]⟩
  · refine .inl (fin (σ.length + (id - m.length)) (by omega) ?_ (g4 (id - m.length) (by omega)))
    unfold up
    rw [List.getElem?_eq_none (by omega)]
    simp only
    omega
theorem back_foot {k : Nat} (h : Foot (fun _ => True) (E.ren m σ fz B) m0 k) : ∃ (b : Nat) (blk : Blk) (x : Nat), b ∈ σ ∧ m[b]? = some blk ∧ blk.live ∧ E.ρ b = some (k, x) := by
  obtain ⟨i, blk0, x, h1, h2, _, h3⟩ := h
  cases hq : σ[i]? with
  | none => simp [Env.ren, hq] at h3
  | some b =>
    obtain ⟨blk, q1, q2, _, _⟩ := hm.get i b blk0 hq h1 h2
    exact ⟨b, blk, x, List.mem_of_getElem? hq, q1, q2, by simpa [Env.ren, hq] using h3⟩
theorem back_step : Step E m w (E.back E1 m.length σ.length) (upMem σ fz m m1) w1 where
  F := fun k hk => hg.F k (.inl hk)
  B := fun k hk => hk
  ρ := fun id hid => by simp [Env.back, hid]
  len := by
    have hl1 : σ.length ≤ m1.length := by rw [← hm.len]; exact hg.len
    rw [(upMem_get (m1 := m1) hσ hb hl1 hfz 0).2.2.2.2]
    omega
  shape := fun id blk' hid h hl => by
    rcases back_names hs hσ hb hfz hm hBσ hs1 hg h hl with ⟨i, blk, hi, e, h1, h2, rfl, _⟩ | ⟨_, _, _, h1, _⟩
    · cases hq : σ[i]? with
      | none =>
        unfold up at e
        rw [hq] at e
        simp only at e
        omega
      | some b =>
        have : id = b := by rw [e]; simp [up, hq]
        subst this
        obtain ⟨blk0, q1, q2, q3, q4⟩ := hg.shape i blk (by rw [hm.len]; exact (List.getElem?_eq_some_iff.1 hq).1) h1 h2
        obtain ⟨blk2, r1, r2, r3, r4⟩ := hm.get i id blk0 hq q1 q2
        obtain ⟨t1, t2, _⟩ := up_rows σ m.length blk
        exact ⟨blk2, r1, r2, by rw [t1, q3, r3], by rw [t2, q4, r4]⟩
    · exact ⟨blk', h1, hl, rfl, rfl⟩
  frz := fun k hk => hg.frz k (hk.imp .inl .inl)
  stays := hg.stays
theorem back_old {id : Nat} {blk : Blk} {a_ x : Nat} (h1 : id ∉ σ) (h2 : m[id]? = some blk) (h3 : blk.live) (h4 : E.ρ id = some (a_, x)) : a_ < w.heap.size ∧ w1.heap[a_]? = w.heap[a_]? := by
  have hlt := blk_lt hs h2 h3 h4
  refine ⟨hlt, hg.block a_ hlt (fun hf => ?_)⟩
  obtain ⟨b, blk', x', q1, q2, q3, q4⟩ := back_foot hs hσ hb hfz hm hBσ hs1 hg hf
  obtain rfl := hs.inj id b blk blk' a_ x x' h2 q2 h3 q3 h4 q4
  exact h1 q1
/-- A block of one of the callee's live names is none of a name that it has not seen. -/
theorem back_apart {i id : Nat} {b1 blk : Blk} {a_ x y : Nat} (h1 : m1[i]? = some b1) (h2 : b1.live) (h3 : E1.ρ i = some (a_, x)) (h4 : id ∉ σ) (h5 : m[id]? = some blk) (h6 : blk.live) (h7 : E.ρ id = some (a_, y)) : False := by
  have hlt := blk_lt hs h5 h6 h7
  have nofoot : ¬ Foot (fun _ => True) (E.ren m σ fz B) m0 a_ := fun hf => by
    obtain ⟨b, blk', x', q1, q2, q3, q4⟩ := back_foot hs hσ hb hfz hm hBσ hs1 hg hf
    obtain rfl := hs.inj id b blk blk' a_ y x' h5 q2 h6 q3 h7 q4
    exact h4 q1
  rcases Nat.lt_or_ge i m0.length with hi | hi
  · obtain ⟨blk0, q1, q2, _, _⟩ := hg.shape i b1 hi h1 h2
    exact nofoot ⟨i, blk0, x, q1, q2, trivial, (hg.ρ i hi) ▸ h3⟩
  · rcases hg.newρ i a_ x b1 hi h1 h2 h3 with h | h
    · omega
    · exact nofoot h
theorem back_sat (hfree : ∀ (id : Nat) (blk : Blk), m1[id]? = some blk → blk.free = true) : Sat (E.back E1 m.length σ.length) (upMem σ fz m m1) w1 := by
  have step := back_step hs hσ hb hfz hm hBσ hs1 hg
  have names := fun {id : Nat} {blk' : Blk} (h : (upMem σ fz m m1)[id]? = some blk') (hl : blk'.live) => back_names hs hσ hb hfz hm hBσ hs1 hg h hl
  refine ⟨fun id blk' h hl => ?_, fun i j bi bj a_ x y hi hj li lj ei ej => ?_, fun id bi a_ x h hl ei => ?_, fun k hk => ?_, fun id ag l h => ?_⟩
  · rcases names h hl with ⟨i, blk, hi, _, h1, h2, rfl, h3⟩ | ⟨_, h1, _, h2, h3⟩
    · rw [h3]
      obtain ⟨r1, r2, r3⟩ := up_rows σ m.length blk
      have hfr := hfree i blk h1
      rcases hs1.rep i blk h1 h2 with ⟨e, h4⟩ | ⟨a_, base, e, g1, g2, g3⟩
      · exact .inl ⟨e, List.eq_nil_of_length_eq_zero (by rw [r1, h4]; rfl)⟩
      · refine .inr ⟨a_, base, e, by rw [r1, r2]; exact g1, g2, fun q row hq => ?_⟩
        rw [r2]
        cases blk with
        | dead => exact h2.elim
        | lit es rows =>
          simp only [Blk.up, Blk.rows, List.getElem?_map] at hq
          cases hr : rows[q]? with
          | none => simp [hr] at hq
          | some row0 =>
            simp [hr] at hq
            subst hq
            obtain ⟨k1, k2⟩ := g3 q row0 hr
            refine ⟨by simpa using k1, fun j x hj => ?_⟩
            rw [List.getElem?_map] at hj
            cases hy : row0[j]? with
            | none => simp [hy] at hj
            | some y =>
              simp [hy] at hj
              subst hj
              obtain ⟨u, k3, k4⟩ := k2 j y hy
              exact ⟨u, k3, CRep.back hs hσ hb hfz hm hBσ hs1 hg k4 (List.all_eq_true.1 (List.all_eq_true.1 hfr row0 (List.mem_of_getElem? hr)) y (List.mem_of_getElem? hy))⟩
        | sym es l =>
          obtain ⟨k1, k2⟩ := g3 q row hq
          refine ⟨k1, fun j x hj => ?_⟩
          obtain ⟨u, k3, k4⟩ := k2 j x hj
          simp only [Blk.up, Blk.rows, List.getElem?_map] at hq
          cases hr : l[q]? with
          | none => simp [hr] at hq
          | some r =>
            simp [hr] at hq
            subst hq
            rw [List.getElem?_map] at hj
            cases hy : r[j]? with
            | none => simp [hy] at hj
            | some g =>
              simp [hy] at hj
              subst hj
              exact ⟨u, k3, k4⟩
        | mp ag l => simp [Blk.up, Blk.rows] at hq
    · rw [h3]
      rcases hs.rep id blk' h2 hl with h4 | ⟨a_, base, e, g1, g2, g3⟩
      · exact .inl h4
      · rw [e]
        exact BRep.step_rep step (back_old hs hσ hb hfz hm hBσ hs1 hg h1 h2 hl e).2 hg.size (fun _ => .inr ⟨a_, base, rfl, g1, g2, g3⟩) hl
  · rcases names hi li with ⟨i', b1, _, e1, p1, p2, _, p3⟩ | ⟨_, p1, _, p2, p3⟩ <;> rcases names hj lj with ⟨j', b2, _, e2, q1, q2, _, q3⟩ | ⟨_, q1, _, q2, q3⟩
    · rw [p3] at ei
      rw [q3] at ej
      rw [e1, e2, hs1.inj i' j' b1 b2 a_ x y p1 q1 p2 q2 ei ej]
    · rw [p3] at ei
      rw [q3] at ej
      exact (back_apart hs hσ hb hfz hm hBσ hs1 hg p1 p2 ei q1 q2 lj ej).elim
    · rw [p3] at ei
      rw [q3] at ej
      exact (back_apart hs hσ hb hfz hm hBσ hs1 hg q1 q2 ej p1 p2 li ei).elim
    · rw [p3] at ei
      rw [q3] at ej
      exact hs.inj i j bi bj a_ x y p2 q2 li lj ei ej
  · rcases names h hl with ⟨i', b1, _, e1, p1, p2, _, p3⟩ | ⟨_, p1, p0, p2, p3⟩
    · rw [p3] at ei
      obtain ⟨d1, d2⟩ := hs1.dis i' b1 a_ x p1 p2 ei
      exact ⟨d1, fun hB => d2 (hg.B _ (.inl hB))⟩
    · rw [p3] at ei
      obtain ⟨d1, d2⟩ := hs.dis id bi a_ x p2 hl ei
      have hlt := blk_lt hs p2 hl ei
      refine ⟨fun hF => ?_, d2⟩
      rcases hg.newF a_ hF with (hF | ⟨c, blk, x', q1, q2, q3, q4⟩) | hF | hF
      · exact d1 hF
      · obtain rfl := hs.inj id c bi blk a_ x x' p2 q1 hl q2 ei q4
        exact p0 q3
      · omega
      · obtain ⟨b, blk', x', q1, q2, q3, q4⟩ := back_foot hs hσ hb hfz hm hBσ hs1 hg hF
        obtain rfl := hs.inj id b bi blk' a_ x x' p2 q2 hl q3 ei q4
        exact p1 q1
  · rcases hk with hk | hk
    · exact hs1.old k (.inl hk)
    · exact Nat.lt_of_lt_of_le (hs.old k (.inr hk)) hg.size
  · rcases names h trivial with ⟨i, blk, hi, _, h1, h2, e, h3⟩ | ⟨_, h1, _, h2, h3⟩
    · cases blk with
      | mp ag' l' =>
        cases e
        obtain ⟨a_, e, hlt, hm⟩ := hs1.maps i ag l h1
        exact ⟨a_, h3.trans e, hlt, hm⟩
      | _ => cases e
    · obtain ⟨a_, e, hlt, hm⟩ := hs.maps id ag l h2
      exact ⟨a_, h3.trans e, Nat.lt_of_lt_of_le hlt hg.size, hm.step (fun k hk => step.F k hk) (fun k hk => step.frz k (.inl hk)) (back_old hs hσ hb hfz ‹Shape m σ m0› hBσ hs1 hg h1 h2 trivial e).2⟩
theorem back_grow {Wt : Nat → Prop} (hW : ∀ b ∈ σ, Wt b) : Grow Wt E m w (E.back E1 m.length σ.length) (upMem σ fz m m1) w1 where
  toStep := back_step hs hσ hb hfz hm hBσ hs1 hg
  B' := fun k hk => hk
  os := hg.os
  tape := hg.tape
  output := hg.output
  size := hg.size
  block := fun k hk hn => hg.block k hk (fun hf => by
    obtain ⟨b, blk', x', q1, q2, q3, q4⟩ := back_foot hs hσ hb hfz hm hBσ hs1 hg hf
    exact hn ⟨b, blk', x', q2, q3, hW b q1, q4⟩)
  newF := fun k hk => by
    rcases hg.newF k hk with (hF | ⟨c, blk, x', q1, q2, q3, q4⟩) | hF | hF
    · exact .inl hF
    · exact .inr (.inr ⟨c, blk, x', q1, q2, trivial, q4⟩)
    · exact .inr (.inl hF)
    · obtain ⟨b, blk', x', q1, q2, q3, q4⟩ := back_foot hs hσ hb hfz hm hBσ hs1 hg hF
      exact .inr (.inr ⟨b, blk', x', q2, q3, trivial, q4⟩)
  newρ := fun id a_ x blk' hid h hl e => by
    rcases back_names hs hσ hb hfz hm hBσ hs1 hg h hl with ⟨i, blk, hi, e', h1, h2, _, h3⟩ | ⟨h1, _⟩
    · rw [h3] at e
      have hm0 : m0.length ≤ i := by
        rw [hm.len]
        rcases Nat.lt_or_ge i σ.length with hlt | hge
        · have hq : σ[i]? = some σ[i] := List.getElem?_eq_getElem hlt
          have : up σ m.length i = σ[i] := by simp [up, hq]
          rw [this] at e'
          have := hb σ[i] (List.getElem_mem hlt)
          omega
        · exact hge
      rcases hg.newρ i a_ x blk hm0 h1 h2 e with h | h
      · exact .inl h
      · obtain ⟨b, blk', x', q1, q2, q3, q4⟩ := back_foot hs hσ hb hfz hm hBσ hs1 hg h
        exact .inr ⟨b, blk', x', q2, q3, hW b q1, q4⟩
    · omega
end leave
variable {wr : Option (List Nat × Nat)} {er : Bool} {o : Oper} {k : A → Mem → Tree} {Q : Exit → Act → World → Prop}
theorem ev1s_inv : ∀ {l : List Operand} {xs : List Opd} {k : List V1 → Tree}, opds l = some xs → At E m w ts a → Holds P I p (ev1s ts xs k) → ∃ vs : List V1, vs.length = l.length ∧ (∀ (j : Nat) (X : Operand), l[j]? = some X → ∃ v, vs[j]? = some v ∧ V1Rep E m w v (a.eval X)) ∧ Holds P I p (k vs)
  | [], xs, k, ho, hA, h => by
    cases ho
    exact ⟨[], rfl, fun j X hj => by simp at hj, h⟩
  | X :: r, xs, k, ho, hA, h => by
    simp only [opds] at ho
    split at ho
    · rename_i x l hx hl
      cases ho
      obtain ⟨v, hv, h⟩ := ev1_inv hx hA h
      obtain ⟨vs, h1, h2, h⟩ := ev1s_inv hl hA h
      refine ⟨v :: vs, by simp [h1], fun j Y hj => ?_, h⟩
      cases j with
      | zero => simp at hj; subst hj; exact ⟨v, rfl, hv⟩
      | succ j => simpa using h2 j Y (by simpa using hj)
    · cases ho
theorem invArgs_get (σ : List Nat) : ∀ (qs : List How) (l : List V1), (invArgs I σ m qs l).length = l.length ∧ ∀ (j : Nat) (v : V1), l[j]? = some v → (invArgs I σ m qs l)[j]? = some (v.inv I σ (qs.getD j .keep) m)
  | qs, [] => by cases qs <;> exact ⟨rfl, fun j v h => by simp at h⟩
  | [], x :: l => by
    obtain ⟨h1, h2⟩ := invArgs_get σ [] l
    refine ⟨by simp [invArgs, h1], fun j v hj => ?_⟩
    cases j with
    | zero => simp at hj; subst hj; rfl
    | succ j => simpa [invArgs] using h2 j v (by simpa using hj)
  | q :: qs, x :: l => by
    obtain ⟨h1, h2⟩ := invArgs_get σ qs l
    refine ⟨by simp [invArgs, h1], fun j v hj => ?_⟩
    cases j with
    | zero => simp at hj; subst hj; rfl
    | succ j => simpa [invArgs] using h2 j v (by simpa using hj)
theorem plain_rep1 {E' : Env} {m' : Mem} {w' : World} {v : V1} {u : Value} (hp : v.plain = true) (h : V1Rep E' m' w' v u) : V1Rep E m w v u := by
  cases v with
  | agg l => cases hp
  | c x =>
    cases x with
    | g x =>
      rcases h with h | h
      · cases h
      · refine .inr ?_
        cases x with
        | bool b => generalize u = u' at h; cases h; exact .bool b
        | int k z => generalize u = u' at h; cases h; exact .int k z
        | str s => generalize u = u' at h; cases h; exact .str s
        | nilp => generalize u = u' at h; cases h; exact .nilp
        | nil => generalize u = u' at h; cases h; exact .nil
        | rows es l => cases hp
    | _ => cases hp
theorem plain_rep {E' : Env} {m' : Mem} {w' : World} {v : A} {u : Value} (hp : v.plain = true) (h : ARep E' m' w' v u) : ARep E m w v u := by
  cases v with
  | one v => exact plain_rep1 hp h
  | tup l =>
    obtain ⟨us, h1, h2, h3⟩ := h
    refine ⟨us, h1, h2, fun i v hi => ?_⟩
    obtain ⟨u, q1, q2⟩ := h3 i v hi
    exact ⟨u, q1, plain_rep1 (List.all_eq_true.1 hp v (List.mem_of_getElem? hi)) q2⟩
/-- A call that reads: what there is told as frozen, for the call alone. -/
theorem callR_core {f : FuncId} {vals : Array Value} {vs : List V1} (hI : I = ints) (hA : At E m w ts a) (hrun : (execOp a.eval o).run P w = .ok (.enter f vals) w) (hsz : vals.size = vs.length) (v2 : ∀ (i : Nat) (v : V1), vs[i]? = some v → ∃ u, vals[i]? = some u ∧ V1Rep E m w v u)
    {σ1 fz1 fz : List Nat} {qs : List How} {args' : List V1} {R : A → Mem → Prop} (hc : LValid P f args' [] R) (hσ : σ1.Nodup) (hq : ∀ q ∈ qs, ∀ l, q = .frz l → ∀ b ∈ l, b ∈ fz)
    (ha : args' = invArgs I [] (invMem I σ1 (.frz fz1) m) qs (vs.map (V1.inv I σ1 (.frz fz1) m))) (hp : ∀ v m1, R v m1 → v.plain = true) (h : ∀ v m1, R v m1 → Holds P I p (k v m)) : LRes P I p E m w wr a o k Q := by
  intro K hK
  unfold Oper.wp
  rw [hrun]
  have hfz1 : ∀ l, How.frz fz1 = .frz l → ∀ b ∈ l, b ∉ σ1 → b ∈ fz1.filter (fun b => !σ1.contains b) := fun l e b hb hn => by
    cases e
    simp [hb, hn]
  have hB1 : ∀ es, How.frz fz1 = .bor es → ∀ b, b ∉ σ1 → (fun _ : Nat => False) b := fun es e => by cases e
  have hfσ1 : ∀ b ∈ fz1.filter (fun b => !σ1.contains b), b ∉ σ1 := fun b hb => by
    simp at hb
    exact hb.2
  have hsh1 := inv_shape (I := I) σ1 (.frz fz1) m
  have hs1 := Sat.inv hI hA.sat hσ hfz1 hB1 (fun _ h => h.elim) hfσ1
  have hv1 : ∀ (v : V1) (u : Value), V1Rep E m w v u → V1Rep (E.ren m σ1 (fz1.filter (fun b => !σ1.contains b)) (fun _ => False)) (invMem I σ1 (.frz fz1) m) w (v.inv I σ1 (.frz fz1) m) u := fun v u hv => V1Rep.inv hI hA.sat hfz1 hB1 hsh1 hv
  generalize E.ren m σ1 (fz1.filter (fun b => !σ1.contains b)) (fun _ => False) = E1 at hs1 hv1
  generalize hm1 : invMem I σ1 (.frz fz1) m = m1 at hs1 hv1 ha
  have hs2 : Sat (E1.ren m1 [] fz (fun _ => True)) [] w := Sat.inv (q := .keep) (I := I) hI hs1 List.nodup_nil (fun l e => by cases e) (fun es e => by cases e) (fun b _ => by simp) (fun b _ => by simp)
  have hsh2 : Shape m1 [] [] := inv_shape (I := I) [] .keep m1
  obtain ⟨i1, i2⟩ := invArgs_get (I := I) (m := m1) [] qs (vs.map (V1.inv I σ1 (.frz fz1) m))
  have hcall := hc _ w vals hs2 (by rw [ha, i1]; simpa using hsz) (fun i x hi => by
    have hil : i < vs.length := by
      have := (List.getElem?_eq_some_iff.1 hi).1
      rw [ha, i1] at this
      simpa using this
    have hX : vs[i]? = some vs[i] := List.getElem?_eq_getElem hil
    obtain ⟨u, q1, q2⟩ := v2 i _ hX
    rw [ha, i2 i (vs[i].inv I σ1 (.frz fz1) m) (by rw [List.getElem?_map, hX]; rfl)] at hi
    cases hi
    refine ⟨u, q1, ?_⟩
    refine V1Rep.inv hI hs1 (fun l e b hb _ => ?_) (fun es e b hb => trivial) hsh2 (hv1 _ _ q2)
    by_cases hlt : i < qs.length
    · exact hq (qs.getD i .keep) (by rw [List.getD_eq_getElem?_getD, List.getElem?_eq_getElem hlt]; exact List.getElem_mem hlt) l e b hb
    · rw [List.getD_eq_getElem?_getD, List.getElem?_eq_none (by omega)] at e
      cases e)
  refine Calls.mono hcall ?_
  rintro e w1 ⟨u, v, m2, E2, rfl, hR, hv, hvf, hmf, hs3, hg⟩
  have hbl : ∀ k, k < w.heap.size → w1.heap[k]? = w.heap[k]? := fun k hk => hg.block k hk (fun ⟨id, blk, x, h1, _⟩ => by simp at h1)
  have step : Step E m w E m w1 := { Step.refl E m w with frz := fun k hk => hbl k (hA.sat.old k hk), stays := hg.stays }
  have grow : Grow (fun b => okW wr b = true) E m w E m w1 := { Grow.refl (fun b => okW wr b = true) E m w with toStep := step, os := hg.os, tape := hg.tape, output := hg.output, size := hg.size, block := fun k hk _ => hbl k hk }
  have sat : Sat E m w1 := by
    refine ⟨fun id blk hb hl => ?_, hA.sat.inj, hA.sat.dis, fun k hk => Nat.lt_of_lt_of_le (hA.sat.old k hk) hg.size, fun id ag l hb => ?_⟩
    · rcases hA.sat.rep id blk hb hl with h1 | ⟨a_, base, e, g1, g2, g3⟩
      · exact .inl h1
      · rw [e]
        exact BRep.step_rep step (hbl a_ g2) hg.size (fun _ => .inr ⟨a_, base, rfl, g1, g2, g3⟩) hl
    · obtain ⟨a_, e, hlt, hm⟩ := hA.sat.maps id ag l hb
      exact ⟨a_, e, Nat.lt_of_lt_of_le hlt hg.size, MapAt.step (fun _ h => h) (fun k hk => hbl k (hA.sat.old k (.inl hk))) (hbl a_ hlt) hm⟩
  exact hK _ _ _ _ _ (h v m2 hR) grow sat (plain_rep (hp v m2 hR) hv)
theorem call_core {f : FuncId} {vals : Array Value} {vs : List V1} (hI : I = ints) (hA : At E m w ts a) (hrun : (execOp a.eval o).run P w = .ok (.enter f vals) w) (hsz : vals.size = vs.length) (v2 : ∀ (i : Nat) (v : V1), vs[i]? = some v → ∃ u, vals[i]? = some u ∧ V1Rep E m w v u)
    (h : Holds P I p (.call f vs m wr k)) : LRes P I p E m w wr a o k Q := by
  cases h with
  | callR σ1 fz1 fz qs args' R hc hσ hq ha hp h => exact callR_core hI hA hrun hsz v2 hc hσ hq ha hp h
  | call σ fz qs args' m0 R hc hσ hw hfz hq ha hm h =>
  intro K hK
  unfold Oper.wp
  rw [hrun]
  have hbor : ∀ (q : How) (es : Nat), q = .bor es → ∀ b, b ∉ σ → (fun b => b ∉ σ) b := fun _ _ _ b hb => hb
  have hs0 : Sat (E.ren m σ fz (fun b => b ∉ σ)) m0 w := by
    rw [hm]
    exact Sat.inv hI hA.sat hσ (fun l e => by cases e) (fun es e => by cases e) (fun b hb => hb) hfz
  have hsh : Shape m σ m0 := by rw [hm]; exact inv_shape σ .keep m
  obtain ⟨i1, i2⟩ := invArgs_get (I := I) (m := m) σ qs vs
  have hcall := hc (E.ren m σ fz (fun b => b ∉ σ)) w vals hs0 (by rw [ha, i1]; exact hsz) (fun i x hi => by
    have hil : i < vs.length := by
      have := (List.getElem?_eq_some_iff.1 hi).1
      rw [ha, i1] at this
      exact this
    have hX : vs[i]? = some vs[i] := List.getElem?_eq_getElem hil
    obtain ⟨u, q1, q2⟩ := v2 i _ hX
    rw [ha, i2 i _ hX] at hi
    cases hi
    refine ⟨u, q1, ?_⟩
    refine V1Rep.inv hI hA.sat (fun l e b hb _ => ?_) (fun es e b hb => hb) hsh q2
    by_cases hlt : i < qs.length
    · exact hq (qs.getD i .keep) (by rw [List.getD_eq_getElem?_getD, List.getElem?_eq_getElem hlt]; exact List.getElem_mem hlt) l e b hb
    · rw [List.getD_eq_getElem?_getD, List.getElem?_eq_none (by omega)] at e
      cases e)
  refine Calls.mono hcall ?_
  rintro e w1 ⟨u, v, m1, E1, rfl, hR, hv, hvf, hmf, hs1, hg⟩
  have hσm : ∀ b ∈ σ, b < m.length := fun b hb => (hw b (by simp [hb])).2
  exact hK _ _ _ _ _ (h v m1 hR) (back_grow hA.sat hσ hσm hfz hsh (fun b hb => hb) hs1 hg (fun b hb => (hw b (by simp [hb])).1)) (back_sat hA.sat hσ hσm hfz hsh (fun b hb => hb) hs1 hg hmf) (ARep.back hA.sat hσ hσm hfz hsh (fun b hb => hb) hs1 hg hv hvf)
theorem l_call {f : FuncId} {fn : Func} {args : Array Operand} {ats : Array TypeId} {l : List Opd} (hI : I = ints) (hop : o.op = .call { callee := .value (.func f), args := args, argTypes := ats }) (hf : P.funcs[f]? = some fn) (hn : (fn.name == "runtime.NumGoroutine") = false) (hb : fn.body.isSome = true)
    (hl : opds args.toList = some l) (hA : At E m w ts a) (h9 : Holds P I p (evOp I er wr (.call f l) ts m k)) : LRes P I p E m w wr a o k Q := by
  obtain ⟨vs, v1, v2, h⟩ := ev1s_inv hl hA h9
  clear h9
  have hrun : (execOp a.eval o).run P w = .ok (.enter f (args.map a.eval)) w := by
    have hn' : ¬ (fn.name = "runtime.NumGoroutine") := by simpa using hn
    simp [execOp, hop, resolve, Deferred.ofValue, invoke, callFunc, Act.eval, hf, hn', program, Sem.run]
    intro hnone
    rw [hnone] at hb
    cases hb
  refine call_core hI hA hrun (by rw [v1]; simp) (fun i v hi => ?_) h
  have hil : i < args.toList.length := by rw [← v1]; exact (List.getElem?_eq_some_iff.1 hi).1
  obtain ⟨v', q1, q2⟩ := v2 i _ (List.getElem?_eq_getElem hil)
  rw [hi] at q1
  cases q1
  refine ⟨_, ?_, q2⟩
  simp at hil
  simp [hil]
theorem capsOf_rep : ∀ {vs : List V1} {l : List (Nat × Nat × Nat)} {us : List Value}, capsOf vs = some l → us.length = vs.length → (∀ (i : Nat) (v : V1), vs[i]? = some v → ∃ u, us[i]? = some u ∧ V1Rep E m w v u) →
    us.length = l.length ∧ ∀ (i b es j : Nat), l[i]? = some (b, es, j) → b < m.length ∧ ∃ a_ base, E.ρ b = some (a_, base) ∧ us[i]? = some (.pointer (some (at_ a_ (base + (0 * es + j)))))
  | [], l, us, h, hl, hr => by cases h; exact ⟨by simpa using hl, fun i b es j h => by simp at h⟩
  | v :: r, l, us, h, hl, hr => by
    unfold capsOf at h
    split at h
    · cases ‹_ :: _ = ([] : List V1)›
    · rename_i b es j r' e
      cases e
      split at h
      · rename_i l2 h2
        cases h
        cases us with
        | nil => simp at hl
        | cons u us =>
          obtain ⟨g1, g2⟩ := capsOf_rep (us := us) h2 (by simpa using hl) (fun i v hi => by simpa using hr (i + 1) v (by simpa using hi))
          refine ⟨by simp [g1], fun i b' es' j' hi => ?_⟩
          cases i with
          | zero =>
            simp at hi
            obtain ⟨rfl, rfl, rfl⟩ := hi
            obtain ⟨u', q1, q2⟩ := hr 0 _ rfl
            simp at q1
            subst q1
            rcases q2 with q2 | ⟨q2, a_, base, q3, q4⟩
            · cases q2
            · exact ⟨q2, a_, base, q3, by rw [q4]; rfl⟩
          | succ i => simpa using g2 i b' es' j' (by simpa using hi)
      · cases h
    · cases h
theorem capsIn_rep : ∀ {l : List (Nat × Nat × Nat)} {us : List Value}, us.length = l.length → (∀ (i b es j : Nat), l[i]? = some (b, es, j) → b < m.length ∧ ∃ a_ base, E.ρ b = some (a_, base) ∧ us[i]? = some (.pointer (some (at_ a_ (base + (0 * es + j)))))) →
    (capsIn l).length = us.length ∧ ∀ (i : Nat) (v : V1), (capsIn l)[i]? = some v → ∃ u, us[i]? = some u ∧ V1Rep E m w v u
  | [], us, hl, h => ⟨by simpa [capsIn] using hl.symm, fun i v h => by simp [capsIn] at h⟩
  | (b, es, j) :: r, us, hl, h => by
    cases us with
    | nil => simp at hl
    | cons u us =>
      obtain ⟨g1, g2⟩ := capsIn_rep (l := r) (us := us) (by simpa using hl) (fun i b es j hi => by simpa using h (i + 1) b es j (by simpa using hi))
      refine ⟨by simp [capsIn, g1], fun i v hi => ?_⟩
      cases i with
      | zero =>
        simp [capsIn] at hi
        subst hi
        obtain ⟨q1, a_, base, q2, q3⟩ := h 0 b es j rfl
        simp at q3
        exact ⟨u, rfl, .inr ⟨q1, a_, base, q2, by rw [q3]; simp [NN.val]⟩⟩
      | succ i => simpa using g2 i v (by simpa [capsIn] using hi)
theorem l_makeFunc {f : FuncId} {first caps : Array Operand} {l : List Opd} (hop : o.op = .makeFunc (.func f) first caps) (hf : first.isEmpty = true) (hl : opds caps.toList = some l) (hA : At E m w ts a) (h : Holds P I p (evOp I er wr (.makeFunc f l) ts m k)) : LRes P I p E m w wr a o k Q := by
  obtain ⟨vs, v1, v2, h⟩ := ev1s_inv hl hA h
  split at h
  · rename_i cs hc
    obtain ⟨g1, g2⟩ := capsOf_rep (us := caps.toList.map a.eval) hc (by rw [List.length_map, v1]) (fun i v hi => by
      have hil : i < caps.toList.length := by rw [← v1]; exact (List.getElem?_eq_some_iff.1 hi).1
      obtain ⟨v', q1, q2⟩ := v2 i _ (List.getElem?_eq_getElem hil)
      rw [hi] at q1
      cases q1
      exact ⟨_, by rw [List.getElem?_map, List.getElem?_eq_getElem hil]; rfl, q2⟩)
    obtain rfl : first = #[] := by simpa using hf
    intro K hK
    have hrun : (execOp a.eval o).run P w = .ok (.value (.func (.func f) #[] (caps.map a.eval))) w := by
      simp [execOp, hop, Instr.makeFunc]
    unfold Oper.wp
    rw [hrun]
    refine hK _ _ _ _ _ h (Grow.refl _ _ _ _) hA.sat (.inr ⟨caps.map a.eval, rfl, by simpa using g1, fun i b es j hi => ?_⟩)
    obtain ⟨q1, a_, base, q2, q3⟩ := g2 i b es j hi
    exact ⟨q1, a_, base, q2, by rw [← q3, ← Array.getElem?_toList, Array.toList_map]⟩
  · exact (holds_fail h).elim
theorem l_callV {t : Nat} {args : Array Operand} {ats : Array TypeId} {l : List Opd} (hI : I = ints) (hop : o.op = .call { callee := .value (.tmp t), args := args, argTypes := ats })
    (hl : opds args.toList = some l) (hA : At E m w ts a) (h9 : Holds P I p (evOp I er wr (.callV (.tmp t) l) ts m k)) : LRes P I p E m w wr a o k Q := by
  obtain ⟨c, hc, h⟩ := evC_inv (X := .tmp t) rfl hA h9
  clear h9
  split at h
  · rename_i f caps
    obtain ⟨vs, v1, v2, h⟩ := ev1s_inv hl hA h
    cases h with
    | fnok h1 h =>
    rcases hc with hc | ⟨us, hu, hz, hc⟩
    · cases hc
    unfold callable at h1
    split at h1
    · rename_i fn hf
      simp only [Bool.and_eq_true, Bool.not_eq_true', beq_eq_false_iff_ne, ne_eq] at h1
      obtain ⟨hn, hb⟩ := h1
      have hrun : (execOp a.eval o).run P w = .ok (.enter f (args.map a.eval ++ us)) w := by
        simp [execOp, hop, resolve, hu, Deferred.ofValue, invoke, callFunc, hf, hn, program, Sem.run]
        intro hnone
        rw [hnone] at hb
        cases hb
      obtain ⟨c1, c2⟩ := capsIn_rep (us := us.toList) (l := caps) (w := w) (by simpa using hz) (fun i b es j hi => by
        obtain ⟨q1, a_, base, q2, q3⟩ := hc i b es j hi
        exact ⟨q1, a_, base, q2, by rw [Array.getElem?_toList]; exact q3⟩)
      refine call_core hI hA hrun (by simp [c1, v1]) (fun i v hi => ?_) h
      rcases Nat.lt_or_ge i vs.length with hlt | hge
      · rw [List.getElem?_append_left hlt] at hi
        have hil : i < args.toList.length := by rw [← v1]; exact hlt
        obtain ⟨v', q1, q2⟩ := v2 i _ (List.getElem?_eq_getElem hil)
        rw [hi] at q1
        cases q1
        refine ⟨_, ?_, q2⟩
        rw [Array.getElem?_append_left (by simpa using hil)]
        simp at hil
        simp [hil]
      · rw [List.getElem?_append_right hge] at hi
        obtain ⟨u, q1, q2⟩ := c2 _ v hi
        refine ⟨u, ?_, q2⟩
        have hsz : (args.map a.eval).size = vs.length := by rw [v1]; simp
        rw [Array.getElem?_append_right (by rw [hsz]; exact hge), hsz, ← Array.getElem?_toList]
        exact q1
    · cases h1
  · exact (holds_fail h).elim
/-- **Operations that may change the memory, all of them.** -/
theorem loud_sim {x : XOp} (hI : I = ints) (hx : comp1 P o = some x) (hq : x.quiet = false) (hA : At E m w ts a) (h : Holds P I p (evOp I er wr x ts m k)) : LRes P I p E m w wr a o k Q := by
  unfold comp1 at hx
  split at hx
  · cases hx
    exact l_dead h
  · cases hx
    exact l_dead h
  · rename_i t r hop
    split at hx
    · cases hx
      exact l_makeMap hop hA h
    · cases hx
  · rename_i t X Y ok hop
    split at hx
    · rename_i h1 h2 h3
      cases hx
      exact l_lookup hop h1 h2 h3 hI hA h
    · cases hx
  · rename_i t X Y V hop
    split at hx
    · rename_i h1 h2 h3 h4
      cases hx
      exact l_mapUpdate hI hop h1 h2 h3 h4 hA h
    · cases hx
  · rename_i t X Y hop
    split at hx
    · rename_i h1 h2 h3
      cases hx
      exact l_mapEntry hI hop h1 h2 h3 hA h
    · cases hx
  · rename_i t X Y V hop
    split at hx
    · rename_i h1 h2 h3 h4
      cases hx
      exact l_entryStore hI hop h1 h2 h3 h4 hA h
    · cases hx
  · obtain ⟨y, hy, rfl⟩ := Option.map_eq_some_iff.1 hx; cases hq
  · obtain ⟨y, hy, rfl⟩ := Option.map_eq_some_iff.1 hx; cases hq
  · split at hx
    · cases hx; cases hq
    · cases hx
  · rename_i t X hop
    obtain ⟨y, hy, rfl⟩ := Option.map_eq_some_iff.1 hx
    exact l_box hop hy hA h
  · rename_i t hop
    obtain ⟨z, hz, rfl⟩ := Option.map_eq_some_iff.1 hx
    exact l_alloc hop hz hA h
  · split at hx
    · cases hx; cases hq
    · cases hx
  · rename_i t n ps hop
    split at hx
    · rename_i e ht
      split at hx
      · rename_i es z l h1 h2 h3
        split at hx
        · rename_i d1 d3
          cases hx
          exact l_buildSlice hI hop ht h1 h2 h3 (of_decide_eq_true d1) (of_decide_eq_true d3) hA h
        · cases hx
      · cases hx
    · cases hx
  · split at hx
    · cases hx; cases hq
    · cases hx
  · rename_i t X Y hop
    split at hx
    · rename_i h1 h2 h3
      cases hx
      exact l_store hI hop h1 h2 h3 hA h
    · cases hx
  · obtain ⟨y, hy, rfl⟩ := Option.map_eq_some_iff.1 hx; cases hq
  · split at hx
    · unfold compBin at hx
      split at hx
      · split at hx <;> cases hx <;> cases hq
      · split at hx <;> cases hx <;> cases hq
      · split at hx <;> cases hx <;> cases hq
      · split at hx <;> cases hx <;> cases hq
      · split at hx <;> cases hx <;> cases hq
      · split at hx
        · split at hx <;> cases hx <;> cases hq
        · cases hx
      · cases hx
    · cases hx
  · split at hx
    · obtain ⟨y, hy, rfl⟩ := Option.map_eq_some_iff.1 hx; cases hq
    · obtain ⟨y, hy, rfl⟩ := Option.map_eq_some_iff.1 hx; cases hq
    · obtain ⟨y, hy, rfl⟩ := Option.map_eq_some_iff.1 hx; cases hq
    · cases hx
  · rename_i s d X hop
    split at hx
    · obtain ⟨y, hy, rfl⟩ := Option.map_eq_some_iff.1 hx; cases hq
    · rename_i e h1 h2
      split at hx
      · rename_i h3
        obtain ⟨y, hy, rfl⟩ := Option.map_eq_some_iff.1 hx
        exact l_b2s hI hop h1 h3 h2 hy hA h
      · cases hx
    · rename_i e h1 h2
      split at hx
      · rename_i b h3
        cases hx
        exact l_s2b hop h1 h2 h3 hA h
      · cases hx
    · cases hx
  · split at hx
    · split at hx
      · split at hx
        · split at hx <;> cases hx; cases hq
        · cases hx
      · cases hx
    · cases hx
  · split at hx
    · split at hx
      · split at hx <;> cases hx; cases hq
      · cases hx
    · cases hx
  · split at hx
    · obtain ⟨y, hy, rfl⟩ := Option.map_eq_some_iff.1 hx; cases hq
    · obtain ⟨y, hy, rfl⟩ := Option.map_eq_some_iff.1 hx; cases hq
    · cases hx
  · split at hx
    · split at hx <;> cases hx; cases hq
    · cases hx
  · split at hx
    · split at hx <;> cases hx; cases hq
    · cases hx
  · rename_i t L Cp hop
    split at hx
    · rename_i e ht
      split at hx
      · rename_i i z lo co h1 h2 h3 h4
        split at hx
        · rename_i x1 x2 d1 d2 d3
          split at hx
          · rename_i hab
            cases hx
            exact l_makeSlice hI hop ht h1 h2 (of_decide_eq_true d1) (of_decide_eq_true d2) (of_decide_eq_true d3) h3 (fun j n hn => ⟨j, by rw [← hn]; simp at hab; rw [hab]⟩) hA h
          · cases hx
            exact l_makeSlice2 hI hop ht h1 h2 (of_decide_eq_true d1) (of_decide_eq_true d2) h3 h4 hA h
        · rename_i k1 x1 k2 x2 d1 d2 d3
          split at hx
          · rename_i hab
            cases hx
            refine l_makeSlice hI hop ht h1 h2 (of_decide_eq_true d1) (of_decide_eq_true d2) (of_decide_eq_true d3) h3 (fun j n hn => ⟨k2, ?_⟩) hA h
            simp [Act.eval] at hn ⊢
            simp at hab
            omega
          · cases hx
            exact l_makeSlice2 hI hop ht h1 h2 (of_decide_eq_true d1) (of_decide_eq_true d2) h3 h4 hA h
        · rename_i d1 d2 d3 _ _
          cases hx
          exact l_makeSlice2 hI hop ht h1 h2 (of_decide_eq_true d1) (of_decide_eq_true d2) h3 h4 hA h
        · cases hx
      · cases hx
    · cases hx
  · obtain ⟨y, hy, rfl⟩ := Option.map_eq_some_iff.1 hx; cases hq
  · rename_i c hop
    obtain ⟨callee, args, ats⟩ := c
    unfold compCall at hx
    simp only at hx
    split at hx
    · rename_i f
      split at hx
      · rename_i fn hf
        split at hx
        · rename_i l h1 h2 h3
          cases hx
          exact l_call hI hop hf h1 h2 h3 hA h
        · cases hx
      · cases hx
    · split at hx
      · rename_i X Y t t' hXY h0 _
        split at hx
        · rename_i e e' x y hu _ hx' hy'
          split at hx
          · rename_i es hs
            split at hx
            · rename_i d1
              cases hx
              obtain rfl : args = #[X, Y] := by rw [← Array.toArray_toList (xs := args), hXY]
              exact l_copy hI hop h0 hu hs (of_decide_eq_true d1) hx' hy' hA h
            · cases hx
          · cases hx
        · cases hx
      · cases hx
    · split at hx
      · rename_i X t hX ht
        split at hx
        · cases hx; cases hq
        · rename_i kt et y hu hy
          cases hx
          obtain rfl : args = #[X] := by rw [← Array.toArray_toList (xs := args), hX]
          exact l_lenMap (ty := 0) hI hop ht hu hy hA h
        · cases hx
      · cases hx
    · split at hx
      · split at hx <;> cases hx; cases hq
      · cases hx
    · split at hx <;> cases hx; cases hq
    · split at hx <;> cases hx; cases hq
    · split at hx
      · rename_i X Y t u hXY htu
        split at hx
        · rename_i e heq ht
          split at hx
          · rename_i i z x y h1 h2 h3 h4
            split at hx
            · rename_i d1
              cases hx
              obtain rfl : t = u := by simpa using heq
              obtain rfl : args = #[X, Y] := by rw [← Array.toArray_toList (xs := args), hXY]
              obtain rfl : ats = #[t, t] := by rw [← Array.toArray_toList (xs := ats), htu]
              exact l_append hI hop ht h1 h2 (of_decide_eq_true d1) h3 h4 hA h
            · cases hx
          · cases hx
        · rename_i e heq ht
          split at hx
          · rename_i kn i z x y hu h1 h2 h3 h4
            split at hx
            · rename_i d1
              cases hx
              obtain rfl : args = #[X, Y] := by rw [← Array.toArray_toList (xs := args), hXY]
              obtain rfl : ats = #[t, u] := by rw [← Array.toArray_toList (xs := ats), htu]
              exact l_appendZ hI hop ht hu h1 h2 (of_decide_eq_true d1) h3 h4 hA h
            · cases hx
          · cases hx
        · cases hx
      · cases hx
    · rename_i t
      obtain ⟨l, hl, rfl⟩ := Option.map_eq_some_iff.1 hx
      exact l_callV hI hop hl hA h
    · cases hx
  · rename_i f first caps hop
    split at hx
    · rename_i l h1 h2
      cases hx
      exact l_makeFunc hop h1 h2 hA h
    · cases hx
  · cases hx
end
end Go.Proofs.Ytccfcenhpmdemaa.E
