/- Other names: what is known under the old ones is known under the new ones. -/
import Derived.Test.YtccfcenhpmdemaaE9
namespace Go.Proofs.Ytccfcenhpmdemaa.E
open Go
set_option linter.unusedVariables false

section
variable {P : Program} {I : Ints} {p : Nat} {E : Env} {m : Mem} {w w' : World} {ts : List A} {a : Act}
/-- The blocks of live names. -/
def LiveAt (Wt : Nat → Prop) (E : Env) (m : Mem) (k : Nat) : Prop := ∃ (b : Nat) (blk : Blk) (x : Nat), m[b]? = some blk ∧ blk.live ∧ Wt b ∧ E.ρ b = some (k, x)
/-- Under the names of σ: the blocks of fz are frozen, those of B are lent. -/
def Env.ren (E : Env) (m : Mem) (σ fz : List Nat) (B : Nat → Prop) : Env where
  F := fun k => E.F k ∨ LiveAt (fun b => b ∈ fz) E m k
  B := fun k => E.B k ∨ LiveAt B E m k
  ρ := fun i => (σ[i]?).bind E.ρ
theorem idx_some {σ : List Nat} {b i : Nat} (h : σ.idxOf? b = some i) : σ[i]? = some b := by
  rw [List.idxOf?_eq_some_iff] at h
  obtain ⟨hi, h1, _⟩ := h
  rw [List.getElem?_eq_getElem hi]
  simpa using h1
theorem idx_none {σ : List Nat} {b : Nat} (h : σ.idxOf? b = none) : b ∉ σ := by
  rw [List.idxOf?_eq_none_iff] at h
  exact h
theorem capsInv_get {σ : List Nat} : ∀ {l l' : List (Nat × Nat × Nat)}, capsInv σ l = some l' → l'.length = l.length ∧ ∀ (i b es j : Nat), l'[i]? = some (b, es, j) → ∃ b0, l[i]? = some (b0, es, j) ∧ σ.idxOf? b0 = some b
  | [], l', h => by cases h; exact ⟨rfl, fun i b es j h => by simp at h⟩
  | (b1, e1, j1) :: r, l', h => by
    simp only [capsInv] at h
    split at h
    · rename_i b2 l2 hb hr
      cases h
      obtain ⟨g1, g2⟩ := capsInv_get hr
      refine ⟨by simp [g1], fun i b es j hi => ?_⟩
      cases i with
      | zero => simp at hi; obtain ⟨rfl, rfl, rfl⟩ := hi; exact ⟨b1, rfl, hb⟩
      | succ i => simpa using g2 i b es j (by simpa using hi)
    · cases h
theorem ReadsT.row {T : Nat → Prop} {es : Nat} {l : List (List G)} {v : Value} (h : ReadsT T E w es l v) : ∃ A_ c u, v = .slice A_ l.length c ∧ l.length ≤ c ∧ RowAt w T es l A_ u ∧ ∀ (i : Nat) (r : List G) (j : Nat) (x : G), l[i]? = some r → r[j]? = some x → GRep E.F w x (u i j) := by
  obtain ⟨A_, c, h1, h2, h3, h4⟩ := h
  rcases h4 with rfl | ⟨a_, off, rfl, hT, h4⟩
  · exact ⟨A_, c, fun _ _ => undef, h1, h2, ⟨h3, fun i r j x h => by simp at h, fun h => absurd rfl h⟩, fun i r j x h => by simp at h⟩
  · refine ⟨_, c, fun i j => (w.cell? (at_ a_ (off + (i * es + j)))).getD undef, h1, h2, ⟨h3, fun i r j x hi hj => ?_, fun _ => ⟨a_, off, rfl, hT⟩⟩, fun i r j x hi hj => ?_⟩
    · obtain ⟨u, q1, q2⟩ := h4 i r j x hi hj
      exact ⟨a_, off, rfl, hT, by rw [q1]; rfl⟩
    · obtain ⟨u, q1, q2⟩ := h4 i r j x hi hj
      simp only [q1]
      exact q2
theorem ren_G {σ fz : List Nat} {B : Nat → Prop} {x : G} {u : Value} (h : GRep E.F w x u) : GRep (E.ren m σ fz B).F w x u := GRep.step (fun k hk => .inl hk) (fun _ _ => rfl) h
/-- A memory under other names has the same blocks. -/
structure Shape (m : Mem) (σ : List Nat) (m0 : Mem) : Prop where
  len : m0.length = σ.length
  get : ∀ (i b : Nat) (blk0 : Blk), σ[i]? = some b → m0[i]? = some blk0 → blk0.live → ∃ blk : Blk, m[b]? = some blk ∧ blk.live ∧ blk0.rows.length = blk.rows.length ∧ blk0.es = blk.es
theorem inv_rows (σ : List Nat) (q : How) (m : Mem) (b : Blk) : (b.inv I σ q m).rows.length = b.rows.length ∧ (b.inv I σ q m).es = b.es ∧ ((b.inv I σ q m).live ↔ b.live) := by
  cases b <;> simp [Blk.inv, Blk.rows, Blk.es, Blk.live]
theorem inv_shape (σ : List Nat) (q : How) (m : Mem) : Shape m σ (invMem I σ q m) := by
  refine ⟨by simp [invMem], fun i b blk0 hi h0 hl => ?_⟩
  rw [invMem, List.getElem?_map, hi] at h0
  simp at h0
  subst h0
  obtain ⟨h1, h2, h3⟩ := inv_rows (I := I) σ q m (m.getD b .dead)
  have hl' := h3.1 hl
  rw [List.getD_eq_getElem?_getD] at hl' h1 h2
  cases hb : m[b]? with
  | none => rw [hb] at hl'; exact hl'.elim
  | some blk =>
    rw [hb] at hl' h1 h2
    exact ⟨blk, rfl, hl', by simpa using h1, by simpa using h2⟩
theorem CRep.inv (hI : I = ints) (hs : Sat E m w) {σ fz : List Nat} {B : Nat → Prop} {q : How} {m0 : Mem} (hfz : ∀ l, q = .frz l → ∀ b ∈ l, b ∉ σ → b ∈ fz) (hB : ∀ es, q = .bor es → ∀ b, b ∉ σ → B b) (hm : Shape m σ m0) {x : C} {u : Value} (hx : CRep E m w x u) :
    CRep (E.ren m σ fz B) m0 w (x.inv I σ q m) u := by
  have low : ∀ (b es : Nat) (x : C) (hn : b ∉ σ) (hR : ∀ k, RT E m x k → LiveAt (fun b' => b' = b) E m k), CRep E m w x u → CRep (E.ren m σ fz B) m0 w (q.low b es (rowsOf I es x m)) u := by
    intro b es x hn hR hx
    unfold How.low
    split
    · rename_i es' l hl
      obtain ⟨A_, c, u', h1, h2, h3, h4⟩ := ((rowsOf_readsT hI hs hl (.inr hx)).mono hR).row
      refine ⟨A_, c, u', h1, h2, h3.step (fun k hk => .inr (.inr ?_)) (fun _ _ => rfl), fun i r j x hi hj => ren_G (h4 i r j x hi hj)⟩
      obtain ⟨b', blk, x', q1, q2, rfl, q3⟩ := hk
      exact ⟨b', blk, x', q1, q2, hB _ rfl _ hn, q3⟩
    · rename_i fz' l hl
      split
      · rename_i hc
        obtain ⟨A_, c, u', rfl, h2, h3, h4⟩ := ((rowsOf_readsT hI hs hl (.inr hx)).mono hR).row
        refine GRep.rows u' h2 (h3.step (fun k hk => .inr ?_) (fun _ _ => rfl)) (fun i r j x hi hj => ren_G (h4 i r j x hi hj))
        obtain ⟨b', blk, x', q1, q2, rfl, q3⟩ := hk
        exact ⟨b', blk, x', q1, q2, hfz _ rfl _ (by simpa using hc) hn, q3⟩
      · exact hx.one
    · exact hx.one
  cases x with
  | any => exact hx
  | g x =>
    cases x with
    | rows es l =>
      cases q with
      | bor es' =>
        cases hx with
        | rows u' h1 h2 h3 => exact ⟨_, _, u', rfl, h1, h2.step (fun k hk => .inl (.inl hk)) (fun _ _ => rfl), fun i r j x hi hj => ren_G (h3 i r j x hi hj)⟩
      | _ => exact ren_G (m := m) hx
    | nil =>
      cases hx
      cases q with
      | bor es' => exact ⟨none, 0, fun _ _ => undef, rfl, Nat.le_refl _, ⟨fun i r h => by simp at h, fun i r j x h => by simp at h, fun h => absurd rfl h⟩, fun i r j x h => by simp at h⟩
      | rows es' => exact GRep.rows (l := []) (fun _ _ => undef) (Nat.le_refl _) ⟨fun i r h => by simp at h, fun i r j x h => by simp at h, fun h => absurd rfl h⟩ (fun i r j x h => by simp at h)
      | _ => exact GRep.nil
    | _ => exact ren_G (m := m) hx
  | bor es l =>
    obtain ⟨A_, c, u', h1, h2, h3, h4⟩ := hx
    exact ⟨A_, c, u', h1, h2, h3.step (fun k hk => hk.imp .inl .inl) (fun _ _ => rfl), fun i r j x hi hj => ren_G (h4 i r j x hi hj)⟩
  | gp row j =>
    obtain ⟨a_, off, h1, h2, h3⟩ := hx
    exact ⟨a_, off, h1, h2.imp .inl .inl, fun j x hj => let ⟨u, q1, q2⟩ := h3 j x hj; ⟨u, q1, ren_G q2⟩⟩
  | ptr b i es j =>
    simp only [C.inv]
    cases hb : σ.idxOf? b with
    | none => exact hx.one
    | some i' =>
      have hi := idx_some hb
      obtain ⟨_, a_, base, h1, h2⟩ := hx
      exact ⟨by rw [hm.len]; exact (List.getElem?_eq_some_iff.1 hi).1, a_, base, by simp [Env.ren, hi, h1], h2⟩
  | row b es cap =>
    simp only [C.inv]
    cases hb : σ.idxOf? b with
    | none => exact low b es _ (idx_none hb) (fun k ⟨blk, x, h1, h2, h3⟩ => ⟨b, blk, x, h1, h2, rfl, h3⟩) hx
    | some i' =>
      have hi := idx_some hb
      obtain ⟨_, ho, h2⟩ := hx
      refine ⟨by rw [hm.len]; exact (List.getElem?_eq_some_iff.1 hi).1, ho, fun blk0 h0 hl => ?_⟩
      obtain ⟨blk, q1, q2, q3, q4⟩ := hm.get i' b blk0 hi h0 hl
      rw [q3, q4]
      have : (E.ren m σ fz B).ρ i' = E.ρ b := by simp [Env.ren, hi]
      rw [this]
      exact h2 blk q1 q2
  | sl b i es n cap =>
    simp only [C.inv]
    cases hb : σ.idxOf? b with
    | none => exact low b es _ (idx_none hb) (fun k ⟨blk, x, h1, h2, h3⟩ => ⟨b, blk, x, h1, h2, rfl, h3⟩) hx
    | some i' =>
      have hi := idx_some hb
      obtain ⟨_, ho, h2⟩ := hx
      refine ⟨by rw [hm.len]; exact (List.getElem?_eq_some_iff.1 hi).1, ho, fun blk0 h0 hl => ?_⟩
      obtain ⟨blk, q1, q2, q3, q4⟩ := hm.get i' b blk0 hi h0 hl
      rw [q3, q4]
      have : (E.ren m σ fz B).ρ i' = E.ρ b := by simp [Env.ren, hi]
      rw [this]
      exact h2 blk q1 q2
  | fn f l =>
    simp only [C.inv]
    cases hb : capsInv σ l with
    | none => exact hx.one
    | some l' =>
      obtain ⟨us, h1, h2, h3⟩ := hx
      obtain ⟨g1, g2⟩ := capsInv_get hb
      refine ⟨us, h1, h2.trans g1.symm, fun i b es j hi => ?_⟩
      obtain ⟨b0, g3, g4⟩ := g2 i b es j hi
      obtain ⟨_, a_, base, h5, h6⟩ := h3 i b0 es j g3
      have hi := idx_some g4
      exact ⟨by rw [hm.len]; exact (List.getElem?_eq_some_iff.1 hi).1, a_, base, by simp [Env.ren, hi, h5], h6⟩
  | map b =>
    simp only [C.inv]
    cases hb : σ.idxOf? b with
    | none => exact hx.one
    | some i' =>
      have hi := idx_some hb
      obtain ⟨_, a_, base, h1, h2⟩ := hx
      exact ⟨by rw [hm.len]; exact (List.getElem?_eq_some_iff.1 hi).1, a_, base, by simp [Env.ren, hi, h1], h2⟩
  | stamp b z =>
    simp only [C.inv]
    cases hb : σ.idxOf? b with
    | none => exact hx.one
    | some i' =>
      have hi := idx_some hb
      obtain ⟨_, a_, base, born, es, c, h1, h2⟩ := hx
      exact ⟨by rw [hm.len]; exact (List.getElem?_eq_some_iff.1 hi).1, a_, base, born, es, c, by simp [Env.ren, hi, h1], h2⟩
theorem V1Rep.inv (hI : I = ints) (hs : Sat E m w) {σ fz : List Nat} {B : Nat → Prop} {q : How} {m0 : Mem} (hfz : ∀ l, q = .frz l → ∀ b ∈ l, b ∉ σ → b ∈ fz) (hB : ∀ es, q = .bor es → ∀ b, b ∉ σ → B b) (hm : Shape m σ m0) {x : V1} {u : Value} (hx : V1Rep E m w x u) :
    V1Rep (E.ren m σ fz B) m0 w (x.inv I σ q m) u := by
  cases x with
  | c x =>
    rcases hx with rfl | hx
    · exact .inl rfl
    · exact .inr (hx.inv hI hs hfz hB hm)
  | agg l =>
    obtain ⟨cs, h1, h2, h3⟩ := hx
    refine ⟨cs, h1, by simpa using h2, fun i x hi => ?_⟩
    rw [List.getElem?_map] at hi
    cases hq : l[i]? with
    | none => simp [hq] at hi
    | some y =>
      simp [hq] at hi
      subst hi
      obtain ⟨u, q1, q2⟩ := h3 i y hq
      exact ⟨u, q1, q2.inv hI hs hfz hB hm⟩
theorem ARep.inv (hI : I = ints) (hs : Sat E m w) {σ fz : List Nat} {B : Nat → Prop} {q : How} {m0 : Mem} (hfz : ∀ l, q = .frz l → ∀ b ∈ l, b ∉ σ → b ∈ fz) (hB : ∀ es, q = .bor es → ∀ b, b ∉ σ → B b) (hm : Shape m σ m0) {x : A} {u : Value} (hx : ARep E m w x u) :
    ARep (E.ren m σ fz B) m0 w (x.inv I σ q m) u := by
  cases x with
  | one v => exact V1Rep.inv hI hs hfz hB hm hx
  | tup l =>
    obtain ⟨cs, h1, h2, h3⟩ := hx
    refine ⟨cs, h1, by simpa using h2, fun i x hi => ?_⟩
    rw [List.getElem?_map] at hi
    cases hq : l[i]? with
    | none => simp [hq] at hi
    | some y =>
      simp [hq] at hi
      subst hi
      obtain ⟨u, q1, q2⟩ := h3 i y hq
      exact ⟨u, q1, V1Rep.inv hI hs hfz hB hm q2⟩
/-- The memory under other names. -/
theorem Sat.inv (hI : I = ints) (hs : Sat E m w) {σ fz : List Nat} {B : Nat → Prop} {q : How} (hσ : σ.Nodup) (hfz : ∀ l, q = .frz l → ∀ b ∈ l, b ∉ σ → b ∈ fz) (hB : ∀ es, q = .bor es → ∀ b, b ∉ σ → B b) (hBσ : ∀ b, B b → b ∉ σ) (hfσ : ∀ b ∈ fz, b ∉ σ) :
    Sat (E.ren m σ fz B) (invMem I σ q m) w := by
  have hsh := inv_shape (I := I) σ q m
  have get : ∀ (i : Nat) (blk0 : Blk), (invMem I σ q m)[i]? = some blk0 → ∃ b, σ[i]? = some b ∧ blk0 = (m.getD b .dead).inv I σ q m := fun i blk0 h => by
    rw [invMem, List.getElem?_map] at h
    cases hq : σ[i]? with
    | none => simp [hq] at h
    | some b => simp [hq] at h; exact ⟨b, rfl, by rw [List.getD_eq_getElem?_getD]; exact h.symm⟩
  have hρ : ∀ (i b : Nat), σ[i]? = some b → (E.ren m σ fz B).ρ i = E.ρ b := fun i b h => by simp [Env.ren, h]
  have uniq : ∀ (i j b : Nat), σ[i]? = some b → σ[j]? = some b → i = j := fun i j b h1 h2 => by
    exact (List.getElem?_inj (List.getElem?_eq_some_iff.1 h1).1 hσ).1 (h1.trans h2.symm)
  have live : ∀ (i b : Nat) (blk0 : Blk), (invMem I σ q m)[i]? = some blk0 → σ[i]? = some b → blk0.live → ∃ blk : Blk, m[b]? = some blk ∧ blk.live ∧ blk0 = blk.inv I σ q m := fun i b blk0 h h1 hl => by
    obtain ⟨b', h2, rfl⟩ := get i blk0 h
    rw [h1] at h2
    cases h2
    have h3 := (inv_rows (I := I) σ q m (m.getD b .dead)).2.2.1 hl
    rw [List.getD_eq_getElem?_getD] at h3 ⊢
    cases hb : m[b]? with
    | none => rw [hb] at h3; exact h3.elim
    | some blk => rw [hb] at h3; exact ⟨blk, rfl, h3, rfl⟩
  refine ⟨fun i blk0 h0 hl => ?_, fun i j bi bj a_ x y hi hj li lj ei ej => ?_, fun i bi a_ x hi li ei => ?_, fun k hk => ?_, fun i ag l h0 => ?_⟩
  · obtain ⟨b, h1, _⟩ := get i blk0 h0
    obtain ⟨blk, h2, h3, rfl⟩ := live i b blk0 h0 h1 hl
    obtain ⟨r1, r2, r3⟩ := inv_rows (I := I) σ q m blk
    rw [hρ i b h1]
    rcases hs.rep b blk h2 h3 with ⟨e, h4⟩ | ⟨a_, base, e, g1, g2, g3⟩
    · refine .inl ⟨e, ?_⟩
      exact List.eq_nil_of_length_eq_zero (by rw [r1, h4]; rfl)
    · refine .inr ⟨a_, base, e, by rw [r1, r2]; exact g1, g2, fun i row hi => ?_⟩
      rw [r2]
      have key : (∃ row0, blk.rows[i]? = some row0 ∧ row = row0.map (C.inv I σ q m)) ∨ (blk.rows[i]? = some row ∧ ∀ (j : Nat) (x : C), row[j]? = some x → ∃ g, x = .g g) := by
        cases blk with
        | dead => exact h3.elim
        | lit es rows =>
          simp only [Blk.inv, Blk.rows, List.getElem?_map] at hi
          cases hq : rows[i]? with
          | none => simp [hq] at hi
          | some row0 => simp [hq] at hi; exact .inl ⟨row0, hq, hi.symm⟩
        | sym es l =>
          refine .inr ⟨hi, fun j x hj => ?_⟩
          simp only [Blk.inv, Blk.rows, List.getElem?_map] at hi
          cases hq : l[i]? with
          | none => simp [hq] at hi
          | some r =>
            simp [hq] at hi
            subst hi
            rw [List.getElem?_map] at hj
            cases hr : r[j]? with
            | none => simp [hr] at hj
            | some g => simp [hr] at hj; exact ⟨g, hj.symm⟩
        | mp ag l => simp [Blk.inv, Blk.rows] at hi
      rcases key with ⟨row0, k1, rfl⟩ | ⟨k1, k2⟩
      · obtain ⟨q1, q2⟩ := g3 i row0 k1
        refine ⟨by simpa using q1, fun j x hj => ?_⟩
        rw [List.getElem?_map] at hj
        cases hr : row0[j]? with
        | none => simp [hr] at hj
        | some y =>
          simp [hr] at hj
          subst hj
          obtain ⟨u, q3, q4⟩ := q2 j y hr
          exact ⟨u, q3, q4.inv hI hs hfz hB hsh⟩
      · obtain ⟨q1, q2⟩ := g3 i row k1
        refine ⟨q1, fun j x hj => ?_⟩
        obtain ⟨u, q3, q4⟩ := q2 j x hj
        obtain ⟨g, rfl⟩ := k2 j x hj
        exact ⟨u, q3, ren_G (m := m) q4⟩
  · obtain ⟨b, h1, _⟩ := get i bi hi
    obtain ⟨c, h2, _⟩ := get j bj hj
    obtain ⟨b1, h3, h4, _⟩ := live i b bi hi h1 li
    obtain ⟨b2, h5, h6, _⟩ := live j c bj hj h2 lj
    rw [hρ i b h1] at ei
    rw [hρ j c h2] at ej
    obtain rfl := hs.inj b c b1 b2 a_ x y h3 h5 h4 h6 ei ej
    exact uniq i j b h1 h2
  · obtain ⟨b, h1, _⟩ := get i bi hi
    obtain ⟨b1, h3, h4, _⟩ := live i b bi hi h1 li
    rw [hρ i b h1] at ei
    obtain ⟨d1, d2⟩ := hs.dis b b1 a_ x h3 h4 ei
    have hbσ : b ∈ σ := List.mem_of_getElem? h1
    refine ⟨fun h => h.elim d1 ?_, fun h => h.elim d2 ?_⟩
    · rintro ⟨c, blk, x', q1, q2, q3, q4⟩
      obtain rfl := hs.inj b c b1 blk a_ x x' h3 q1 h4 q2 ei q4
      exact hfσ _ q3 hbσ
    · rintro ⟨c, blk, x', q1, q2, q3, q4⟩
      obtain rfl := hs.inj b c b1 blk a_ x x' h3 q1 h4 q2 ei q4
      exact hBσ _ q3 hbσ
  · rcases hk with (hk | ⟨c, blk, x', q1, q2, q3, q4⟩) | (hk | ⟨c, blk, x', q1, q2, q3, q4⟩)
    · exact hs.old k (.inl hk)
    · exact blk_lt hs q1 q2 q4
    · exact hs.old k (.inr hk)
    · exact blk_lt hs q1 q2 q4
  · obtain ⟨b, h1, _⟩ := get i _ h0
    obtain ⟨blk, h2, h3, e⟩ := live i b _ h0 h1 trivial
    cases blk with
    | mp ag' l' =>
      cases e
      obtain ⟨a_, e, hlt, hm⟩ := hs.maps b ag l h2
      exact ⟨a_, by rw [hρ i b h1]; exact e, hlt, hm.step (fun k hk => .inl hk) (fun _ _ => rfl) rfl⟩
    | _ => cases e
end
end Go.Proofs.Ytccfcenhpmdemaa.E
