/- Appending. -/
import Derived.Test.YtccfcenhpmdemaaE7
namespace Go.Proofs.Ytccfcenhpmdemaa.E
open Go
set_option linter.unusedVariables false

section
variable {P : Program} {I : Ints} {p : Nat} {E : Env} {m : Mem} {w w' : World} {ts : List A} {a : Act}
variable {Wt : Nat → Prop}
/-- A slice whose elements read as l. -/
def ReadsT (T : Nat → Prop) (E : Env) (w : World) (es : Nat) (l : List (List G)) (v : Value) : Prop :=
  ∃ A_ c, v = .slice A_ l.length c ∧ l.length ≤ c ∧ (∀ (i : Nat) (r : List G), l[i]? = some r → r.length = es) ∧
    (l = [] ∨ ∃ a_ off, A_ = some (at_ a_ off) ∧ T a_ ∧ ∀ (i : Nat) (r : List G) (j : Nat) (x : G), l[i]? = some r → r[j]? = some x → ∃ u, w.cell? (at_ a_ (off + (i * es + j))) = some u ∧ GRep E.F w x u)
abbrev Reads (E : Env) (w : World) (es : Nat) (l : List (List G)) (v : Value) : Prop := ReadsT (fun _ => True) E w es l v
theorem ReadsT.mono {T T' : Nat → Prop} {es : Nat} {l : List (List G)} {v : Value} (h : ReadsT T E w es l v) (hT : ∀ k, T k → T' k) : ReadsT T' E w es l v := by
  obtain ⟨A_, c, h1, h2, h3, h4⟩ := h
  exact ⟨A_, c, h1, h2, h3, h4.imp id fun ⟨a_, off, q1, q2, q3⟩ => ⟨a_, off, q1, hT a_ q2, q3⟩⟩
theorem reads_row {T : Nat → Prop} {es c : Nat} {l : List (List G)} {A_ : Option Addr} {u : Nat → Nat → Value} (hc : l.length ≤ c) (h : RowAt w T es l A_ u) (hg : ∀ (i : Nat) (r : List G) (j : Nat) (x : G), l[i]? = some r → r[j]? = some x → GRep E.F w x (u i j)) : ReadsT T E w es l (.slice A_ l.length c) := by
  refine ⟨A_, c, rfl, hc, h.wid, ?_⟩
  by_cases hl : l = []
  · exact .inl hl
  · obtain ⟨a_, off, h1, h2⟩ := h.some_ hl
    refine .inr ⟨a_, off, h1, h2, fun i r j x hi hj => ?_⟩
    obtain ⟨a2, off2, q1, q2, q3⟩ := h.cell i r j x hi hj
    rw [h1] at q1
    simp only [at_, Option.some.injEq, Addr.mk.injEq, and_true] at q1
    obtain ⟨rfl, rfl⟩ := q1
    exact ⟨_, q3, hg i r j x hi hj⟩
theorem groundRows_map : ∀ {l : List (List C)} {g : List (List G)}, groundRows l = some g → g.map (fun r => r.map C.g) = l
  | [], g, h => by cases h; rfl
  | x :: r, g, h => by
    simp only [groundRows] at h
    split at h
    · rename_i x' l h1 h2
      cases h
      simp [grounds_map h1, groundRows_map h2]
    · cases h
/-- A row of a live name. -/
theorem reads_blk (hs : Sat E m w) {b : Nat} {blk : Blk} {g : List (List G)} {p q : Nat} (hb : m[b]? = some blk) (hl : blk.live) (hg : g.map (fun r => r.map C.g) = (blk.rows.take q).drop p) {a_ base off c : Nat} (hρ : E.ρ b = some (a_, base)) (hoff : 0 < c → off = base + p * blk.es) (hq : q ≤ blk.rows.length) (hpq : p ≤ q) (hc : q - p ≤ c) :
    ReadsT (fun k => k = a_) E w blk.es g (.slice (some (at_ a_ off)) (q - p) c) := by
  have hlen : g.length = q - p := by
    have := congrArg List.length hg
    simp at this
    omega
  rcases hs.rep b blk hb hl with ⟨e, _⟩ | ⟨a', base', e, g1, g2, g3⟩
  · rw [e] at hρ; cases hρ
  rw [e] at hρ
  cases hρ
  have hr : ∀ (i : Nat) (r : List G), g[i]? = some r → p + i < q ∧ blk.rows[p + i]? = some (r.map C.g) := fun i r hi => by
    have : ((blk.rows.take q).drop p)[i]? = some (r.map C.g) := by rw [← hg]; simp [hi]
    exact ext_get this
  refine ⟨_, c, by rw [hlen], by omega, fun i r hi => by have := (g3 _ _ (hr i r hi).2).1; simpa using this, .inr ⟨a_, off, rfl, rfl, fun i r j x hi hj => ?_⟩⟩
  obtain ⟨h1, h2⟩ := hr i r hi
  obtain ⟨u, q1, q2⟩ := (g3 _ _ h2).2 j (.g x) (by simp [hj])
  refine ⟨u, ?_, q2⟩
  rw [hoff (by omega), Nat.add_assoc, ← Nat.add_assoc (p * blk.es), ← Nat.add_mul]
  exact q1
/-- The blocks that a cell's elements may lie in. -/
def RT (E : Env) (m : Mem) : C → Nat → Prop
  | .g _, k => E.F k
  | .bor _ _, k => E.F k ∨ E.B k
  | .row b _ _, k => ∃ blk x, m[b]? = some blk ∧ blk.live ∧ E.ρ b = some (k, x)
  | .sl b _ _ _ _, k => ∃ blk x, m[b]? = some blk ∧ blk.live ∧ E.ρ b = some (k, x)
  | _, _ => False
theorem rowsOf0_readsT (hI : I = ints) (hs : Sat E m w) {es : Nat} {c : C} {l : List (List G)} {v : Value} (h : rowsOf0 I es c m = some l) (hc : c = .any ∨ CRep E m w c v) : ReadsT (RT E m c) E w es l v := by
  subst hI
  cases c with
  | g x =>
    cases x with
    | nil =>
      cases h
      rcases hc with hc | hc <;> cases hc
      exact ⟨none, 0, rfl, Nat.le_refl _, fun i r h => by simp at h, .inl rfl⟩
    | rows es' l' =>
      simp only [rowsOf0] at h
      split at h
      · rename_i he
        cases h
        obtain rfl : es = es' := by simpa using he
        rcases hc with hc | hc
        · cases hc
        cases hc with
        | rows u h1 h2 h3 => exact reads_row h1 h2 h3
      · cases h
    | _ => cases h
  | bor es' l' =>
    simp only [rowsOf0] at h
    split at h
    · rename_i he
      cases h
      obtain rfl : es = es' := by simpa using he
      rcases hc with hc | ⟨A_, c, u, rfl, h1, h2, h3⟩
      · cases hc
      exact reads_row h1 h2 h3
    · cases h
  | row b es' cap =>
    have key : ∃ blk, m[b]? = some blk ∧ blk.live ∧ es = es' ∧ l.map (fun r => r.map C.g) = blk.rows := by
      simp only [rowsOf0] at h
      split at h
      · rename_i he hm
        cases h
        exact ⟨_, hm, trivial, by simpa using he, rfl⟩
      · rename_i he hm
        exact ⟨_, hm, trivial, by simpa using he, groundRows_map h⟩
      · cases h
    obtain ⟨blk, hm, hl, rfl, hg⟩ := key
    rcases hc with hc | ⟨h0, ho, hc⟩
    · cases hc
    obtain ⟨rfl, k2, k3⟩ := hc blk hm hl
    rcases k3 with ⟨e1, rfl⟩ | ⟨a_, base, c, e1, rfl, e3, e4, e5⟩
    · rcases hs.rep b blk hm hl with ⟨_, e3⟩ | ⟨a', base', e3, _⟩
      · rw [e3] at hg
        obtain rfl : l = [] := by simpa using hg
        exact ⟨none, 0, rfl, Nat.le_refl _, fun i r h => by simp at h, .inl rfl⟩
      · rw [e1] at e3; cases e3
    · have := reads_blk (p := 0) (q := blk.rows.length) (off := base) (c := c) hs hm hl (by simpa using hg) e1 (fun _ => by simp) (Nat.le_refl _) (Nat.zero_le _) (by omega)
      refine ReadsT.mono (by simpa using this) (fun k hk => ?_)
      subst hk
      exact ⟨blk, base, hm, hl, e1⟩
  | sl b i es' n cap =>
    have key : ∃ blk, m[b]? = some blk ∧ blk.live ∧ es = es' ∧ l.map (fun r => r.map C.g) = (blk.rows.take (i.val + n.val)).drop i.val := by
      simp only [rowsOf0] at h
      split at h
      · rename_i he hm
        cases h
        refine ⟨_, hm, trivial, by simpa using he, ?_⟩
        rw [nAdd_val rfl]
        simp [Blk.rows, ints, List.map_take, List.map_drop]
      · rename_i he hm
        split at h
        · exact ⟨_, hm, trivial, by simpa using he, groundRows_map h⟩
        · cases h
      · cases h
    obtain ⟨blk, hm, hl, rfl, hg⟩ := key
    rcases hc with hc | ⟨h0, ho, hc⟩
    · cases hc
    obtain ⟨rfl, k2, k3, k4⟩ := hc blk hm hl
    rcases k4 with ⟨e1, rfl, e2⟩ | ⟨a_, base, c, off, e1, rfl, e3, e4, e5, e6⟩
    · rw [e2] at hg
      have hl0 := congrArg List.length hg
      simp only [List.length_map, List.length_drop, List.length_take] at hl0
      obtain rfl : l = [] := List.eq_nil_of_length_eq_zero (by omega)
      exact ⟨none, 0, rfl, Nat.le_refl _, fun i r h => by simp at h, .inl rfl⟩
    · have := reads_blk (p := i.val) (q := i.val + n.val) (off := off) (c := c) hs hm hl hg e1 e3 k2 (by omega) (by omega)
      rw [Nat.add_sub_cancel_left] at this
      refine this.mono (fun k hk => ?_)
      subst hk
      exact ⟨blk, base, hm, hl, e1⟩
  | _ => cases h
theorem ReadsT.sy {T : Nat → Prop} {es : Nat} {l : List (List G)} {v : Value} (h : ReadsT T E w es l v) : ReadsT T E w es (rowsSy l) v := by
  obtain ⟨A_, c, h1, h2, h3, h4⟩ := h
  have hl : (rowsSy l).length = l.length := by simp [rowsSy]
  have hg : ∀ (i : Nat) (r : List G), (rowsSy l)[i]? = some r → ∃ r0, l[i]? = some r0 ∧ r = r0.map G.sy := fun i r hi => by
    unfold rowsSy at hi
    rw [List.getElem?_map] at hi
    obtain ⟨r0, hr, rfl⟩ := Option.map_eq_some_iff.1 hi
    exact ⟨r0, hr, rfl⟩
  refine ⟨A_, c, by rw [hl]; exact h1, by rw [hl]; exact h2, fun i r hi => ?_, h4.imp (fun e => by rw [e]; rfl) ?_⟩
  · obtain ⟨r0, q1, rfl⟩ := hg i r hi
    rw [List.length_map]
    exact h3 i r0 q1
  · rintro ⟨a_, off, e, hT, h5⟩
    refine ⟨a_, off, e, hT, fun i r j x hi hj => ?_⟩
    obtain ⟨r0, q1, rfl⟩ := hg i r hi
    rw [List.getElem?_map] at hj
    obtain ⟨y, hy, rfl⟩ := Option.map_eq_some_iff.1 hj
    obtain ⟨u, q3, q4⟩ := h5 i r0 j y q1 hy
    exact ⟨u, q3, G_sy q4⟩
theorem rowsOf_readsT (hI : I = ints) (hs : Sat E m w) {es : Nat} {c : C} {l : List (List G)} {v : Value} (h : rowsOf I es c m = some l) (hc : c = .any ∨ CRep E m w c v) : ReadsT (RT E m c) E w es l v := by
  unfold rowsOf at h
  split at h
  · rename_i h0 _
    cases h
    exact rowsOf0_readsT hI hs h0 hc
  · rename_i h0 _
    split at h
    · cases h
      exact (rowsOf0_readsT hI hs h0 hc).sy
    · cases h
      exact rowsOf0_readsT hI hs h0 hc
  · cases h
theorem rowsOf_some {es : Nat} {c : C} {l : List (List G)} (h : rowsOf I es c m = some l) : ∃ l0, rowsOf0 I es c m = some l0 := by
  unfold rowsOf at h
  split at h
  · rename_i h0 _
    exact ⟨_, h0⟩
  · rename_i h0 _
    exact ⟨_, h0⟩
  · cases h
theorem rowsOf_reads (hI : I = ints) (hs : Sat E m w) {es : Nat} {c : C} {l : List (List G)} {v : Value} (h : rowsOf I es c m = some l) (hc : c = .any ∨ CRep E m w c v) : Reads E w es l v := (rowsOf_readsT hI hs h hc).mono fun _ _ => trivial
/-- The cells, one behind the other. -/
theorem flat_cells {es : Nat} {l : List (List G)} {a_ off : Nat} (hw : ∀ (i : Nat) (r : List G), l[i]? = some r → r.length = es) (h0 : 0 < es)
    (h : ∀ (i : Nat) (r : List G) (j : Nat) (x : G), l[i]? = some r → r[j]? = some x → ∃ u, w.cell? (at_ a_ (off + (i * es + j))) = some u ∧ GRep E.F w x u) :
    ∃ us : List Value, us.length = l.length * es ∧ (∀ (j : Nat) (u : Value), us[j]? = some u → w.cell? (at_ a_ (off + j)) = some u) ∧ (∀ u ∈ us, u.oneCell' = true) ∧
      ∀ (i : Nat) (r : List G) (j : Nat) (x : G), l[i]? = some r → r[j]? = some x → ∃ u, us[i * es + j]? = some u ∧ GRep E.F w x u := by
  have key : ∀ q, q < l.length * es → ∃ u, w.cell? (at_ a_ (off + q)) = some u ∧ u.oneCell' = true := fun q hq => by
    have hi : q / es < l.length := Nat.div_lt_of_lt_mul (by rw [Nat.mul_comm]; exact hq)
    have hj : q % es < es := Nat.mod_lt _ h0
    have hr : l[q / es]? = some l[q / es] := List.getElem?_eq_getElem hi
    have hrl := hw _ _ hr
    obtain ⟨u, h1, h2⟩ := h (q / es) _ (q % es) _ hr (List.getElem?_eq_getElem (by omega))
    rw [Nat.div_add_mod'] at h1
    exact ⟨u, h1, h2.one⟩
  refine ⟨(List.range (l.length * es)).map fun q => (w.cell? (at_ a_ (off + q))).getD undef, by simp, fun j u hj => ?_, fun u hu => ?_, fun i r j x hi hj => ?_⟩
  · obtain ⟨hlt, hv⟩ := List.getElem?_eq_some_iff.1 hj
    simp at hlt hv
    obtain ⟨u', h1, _⟩ := key j hlt
    rw [h1] at hv
    simp at hv
    rw [h1, hv]
  · obtain ⟨q, hq, rfl⟩ := List.mem_map.1 hu
    obtain ⟨u', h1, h2⟩ := key q (by simpa using hq)
    rw [h1]
    exact h2
  · obtain ⟨u, h1, h2⟩ := h i r j x hi hj
    refine ⟨u, ?_, h2⟩
    have hil : i < l.length := (List.getElem?_eq_some_iff.1 hi).1
    have hjl : j < es := by rw [← hw i r hi]; exact (List.getElem?_eq_some_iff.1 hj).1
    have := Nat.mul_le_mul_right es (show i + 1 ≤ l.length from hil)
    rw [Nat.add_mul] at this
    rw [List.getElem?_map, List.getElem?_range (by omega)]
    simp [h1]
/-- A name is forgotten. -/
theorem kill_grow (hs : Sat E m w) (b : Nat) : Grow Wt E m w E (m.set b .dead) w ∧ Sat E (m.set b .dead) w := by
  have old : ∀ (i : Nat) (bi : Blk), (m.set b .dead)[i]? = some bi → bi.live → m[i]? = some bi := fun i bi hi li => by
    rcases get_set hi with ⟨_, rfl, _⟩ | ⟨_, h⟩
    · exact li.elim
    · exact h
  have step : Step E m w E (m.set b .dead) w :=
    { F := fun _ h => h, B := fun _ h => h, ρ := fun _ _ => rfl, len := by simp, shape := fun id blk' hid h1 h2 => ⟨blk', old _ _ h1 h2, h2, rfl, rfl⟩, frz := fun _ _ => rfl, stays := Stays.refl w }
  refine ⟨{ toStep := step, B' := fun _ h => h, os := rfl, tape := rfl, output := rfl, size := Nat.le_refl _, block := fun _ _ _ => rfl, newF := fun k hk => .inl hk, newρ := fun id a_ x blk1 hid h1 _ _ => ?_ }, ?_⟩
  · rw [List.getElem?_eq_none (by simpa using hid)] at h1; cases h1
  · refine ⟨fun id blk' h1 l1 => ?_, fun i j bi bj c x y hi hj li lj => hs.inj i j bi bj c x y (old _ _ hi li) (old _ _ hj lj) li lj, fun i bi c x hi li => hs.dis i bi c x (old _ _ hi li) li, hs.old, fun id ag l h => hs.maps id ag l (old id _ h trivial)⟩
    rcases hs.rep id blk' (old _ _ h1 l1) l1 with h | ⟨a_, base, e, g1, g2, g3⟩
    · exact .inl h
    · exact .inr ⟨a_, base, e, g1, g2, fun i row hi => ⟨(g3 i row hi).1, fun j x hj => let ⟨u, q1, q2⟩ := (g3 i row hi).2 j x hj; ⟨u, q1, q2.step step⟩⟩⟩
/-- A name is forgotten, and its block has a new one and is written. -/
theorem move_grow (hs : Sat E m w) {b a_ base off : Nat} {blk blk' : Blk} (hb : m[b]? = some blk) (hl : blk.live) (hρ : E.ρ b = some (a_, base)) (hW : Wt b) (hos : w'.os = w.os) (htp : w'.tape = w.tape) (hou : w'.output = w.output) (hsz : w'.heap.size = w.heap.size)
    (hbl : ∀ k, k ≠ a_ → w'.heap[k]? = w.heap[k]?) (hst : Stays w w') (hth : w'.there a_ off (blk'.rows.length * blk'.es))
    (hrep : ∀ (i : Nat) (row : List C), blk'.rows[i]? = some row → row.length = blk'.es ∧ ∀ (j : Nat) (x : C), row[j]? = some x → ∃ u, w'.cell? (at_ a_ (off + (i * blk'.es + j))) = some u ∧ ((∃ g, x = .g g ∧ GRep E.F w' g u) ∨ CRep E m w x u))
    (hnm : ∀ ag l, blk' ≠ .mp ag l := by intro _ _ h; cases h) :
    Grow Wt E m w (E.add m.length (some (a_, off))) (m.set b .dead ++ [blk']) w' ∧ Sat (E.add m.length (some (a_, off))) (m.set b .dead ++ [blk']) w' := by
  have hdis := hs.dis b blk a_ base hb hl hρ
  have hlt := blk_lt hs hb hl hρ
  have hbm : b < m.length := (List.getElem?_eq_some_iff.1 hb).1
  have hE : ∀ id, id < m.length → (E.add m.length (some (a_, off))).ρ id = E.ρ id := fun id h => if_neg (by omega)
  have hEn : (E.add m.length (some (a_, off))).ρ m.length = some (a_, off) := if_pos rfl
  have old : ∀ (i : Nat) (bi : Blk), (m.set b .dead ++ [blk'])[i]? = some bi → bi.live → (i < m.length ∧ i ≠ b ∧ m[i]? = some bi) ∨ (i = m.length ∧ bi = blk') := fun i bi hi li => by
    rcases get_append hi with ⟨h1, h2⟩ | ⟨h1, h2⟩
    · rcases get_set h2 with ⟨_, rfl, _⟩ | ⟨h3, h4⟩
      · exact li.elim
      · exact .inl ⟨by simpa using h1, h3, h4⟩
    · exact .inr ⟨by simpa using h1, h2⟩
  have hne : ∀ (i : Nat) (bi : Blk) (a' x : Nat), m[i]? = some bi → bi.live → i ≠ b → E.ρ i = some (a', x) → a' ≠ a_ := fun i bi a' x h1 h2 h3 h4 e => by
    subst e
    exact h3 (hs.inj i b bi blk a' x base h1 hb h2 hl h4 hρ)
  have step : Step E m w (E.add m.length (some (a_, off))) (m.set b .dead ++ [blk']) w' :=
    { F := fun _ h => h, B := fun _ h => h, ρ := hE, len := by simp
      shape := fun id blk1 hid h1 h2 => by
        rcases old id blk1 h1 h2 with ⟨_, _, h3⟩ | ⟨h3, _⟩
        · exact ⟨blk1, h3, h2, rfl, rfl⟩
        · omega
      frz := fun k hk => hbl k (fun e => by subst e; exact hk.elim hdis.1 hdis.2)
      stays := hst }
  refine ⟨{ toStep := step, B' := fun _ h => h, os := hos, tape := htp, output := hou, size := Nat.le_of_eq hsz.symm, block := fun k hk hn => hbl k (fun e => hn ⟨b, blk, base, hb, hl, hW, e ▸ hρ⟩), newF := fun k hk => .inl hk, newρ := fun id a' x blk1 hid h1 h2 h3 => ?_ }, ?_⟩
  · rcases old id blk1 h1 h2 with ⟨h4, _, _⟩ | ⟨h4, _⟩
    · omega
    · subst h4
      rw [hEn] at h3
      cases h3
      exact .inr ⟨b, blk, base, hb, hl, hW, hρ⟩
  · refine ⟨fun id blk1 h1 l1 => ?_, fun i j bi bj c x y hi hj li lj ei ej => ?_, fun i bi c x hi li ei => ?_, fun k hk => by rw [hsz]; exact hs.old k hk, fun id ag l h1 => ?_⟩
    · rcases old id blk1 h1 l1 with ⟨h2, h3, h4⟩ | ⟨h2, h3⟩
      · rw [hE id h2]
        rcases hs.rep id blk1 h4 l1 with h | ⟨a', base', e, g1, g2, g3⟩
        · exact .inl h
        · rw [e]
          exact BRep.step_rep step (hbl a' (hne id blk1 a' base' h4 l1 h3 e)) (Nat.le_of_eq hsz.symm) (fun _ => .inr ⟨a', base', rfl, g1, g2, g3⟩) l1
      · subst h2 h3
        rw [hEn]
        refine .inr ⟨a_, off, rfl, hth, by omega, fun i row hi => ⟨(hrep i row hi).1, fun j x hj => ?_⟩⟩
        obtain ⟨u, q1, ⟨g, rfl, q2⟩ | q2⟩ := (hrep i row hi).2 j x hj
        · exact ⟨u, q1, q2⟩
        · exact ⟨u, q1, q2.step step⟩
    · rcases old i bi hi li with ⟨h2, h3, h4⟩ | ⟨h2, h3⟩ <;> rcases old j bj hj lj with ⟨h5, h6, h7⟩ | ⟨h5, h6⟩
      · rw [hE i h2] at ei
        rw [hE j h5] at ej
        exact hs.inj i j bi bj c x y h4 h7 li lj ei ej
      · subst h5
        rw [hE i h2] at ei
        rw [hEn] at ej
        cases ej
        exact absurd rfl (hne i bi _ x h4 li h3 ei)
      · subst h2
        rw [hE j h5] at ej
        rw [hEn] at ei
        cases ei
        exact absurd rfl (hne j bj _ y h7 lj h6 ej)
      · omega
    · rcases old i bi hi li with ⟨h2, h3, h4⟩ | ⟨h2, h3⟩
      · rw [hE i h2] at ei
        exact hs.dis i bi c x h4 li ei
      · subst h2
        rw [hEn] at ei
        cases ei
        exact hdis
    · rcases old id _ h1 trivial with ⟨h2, h3, h4⟩ | ⟨_, h3⟩
      · obtain ⟨a', e, hlt, hm⟩ := hs.maps id ag l h4
        exact ⟨a', by rw [hE id h2]; exact e, by omega, hm.step (fun _ h => h) (fun k hk => hbl k (fun e => by subst e; exact hdis.1 hk)) (hbl a' (hne id _ a' 0 h4 trivial h3 e))⟩
      · exact (hnm ag l h3.symm).elim
theorem run_append_zero {t e : TypeId} {i : TypeInfo} (ht : P.underlying t = some (.slice e)) (hi : P.info? e = some i) (A_ A2 : Option Addr) (n c c2 : Nat) (ty : TypeId) (hc : n ≤ c) (w : World) :
    (Builtin.append_ #[t, t] ty #[.slice A_ n c, .slice A2 0 c2]).run P w = .ok (.slice A_ n c) w := by
  cases A_ <;> cases A2 <;> simp [Builtin.append_, run_underlying ht, sizeOf, typeInfo, hi, Builtin.lenOf, hc, Builtin.firstCells, loadCells, loadCellsFrom, storeCells]
theorem flat_rows {es : Nat} {l : List (List G)} {us : List Value} (hw : ∀ (i : Nat) (r : List G), l[i]? = some r → r.length = es) (h : ∀ (i : Nat) (r : List G) (j : Nat) (x : G), l[i]? = some r → r[j]? = some x → ∃ u, us[i * es + j]? = some u ∧ GRep E.F w x u)
    {F : Nat → World → Value → Prop} {i : Nat} {row : List C} (hi : (Blk.sym es l).rows[i]? = some row) : row.length = es ∧ ∀ (j : Nat) (x : C), row[j]? = some x → ∃ u, us[i * es + j]? = some u ∧ CRep E m w x u := by
  simp only [Blk.rows, List.getElem?_map] at hi
  cases hq : l[i]? with
  | none => simp [hq] at hi
  | some r =>
    simp [hq] at hi
    subst hi
    refine ⟨by simpa using hw i r hq, fun j x hj => ?_⟩
    rw [List.getElem?_map] at hj
    cases hr : r[j]? with
    | none => simp [hr] at hj
    | some g =>
      simp [hr] at hj
      subst hj
      exact h i r j g hq hr
/-- What an append that grows leaves. -/
theorem owns_new (hs : Sat E m w) {es : Nat} {l : List (List G)} {us : List Value} {e : TypeId} {v : Value} (hl : us.length = l.length * es) (hne : l ≠ []) (h0 : 0 < es) (hw : ∀ (i : Nat) (r : List G), l[i]? = some r → r.length = es)
    (hc : ∀ (i : Nat) (r : List G) (j : Nat) (x : G), l[i]? = some r → r[j]? = some x → ∃ u, us[i * es + j]? = some u ∧ GRep E.F w x u) (ho : w'.ownsRow w.heap.size e es v l.length us) (hg : w.grownBy w' none) :
    ∃ E', Grow Wt E m w E' (m ++ [.sym es l]) w' ∧ Sat E' (m ++ [.sym es l]) w' ∧ CRep E' (m ++ [.sym es l]) w' (.row m.length es none) v := by
  obtain ⟨h1, ⟨_, h2⟩ | ⟨g, cap, cur, rfl, h2, h3, h4, h5, h6, h7⟩⟩ := ho
  · exact absurd (List.eq_nil_of_length_eq_zero h2) hne
  have hbl : ∀ k, k < w.heap.size → w'.heap[k]? = w.heap[k]? := fun k hk => hg.block k hk (by simp)
  have hcap := Nat.mul_le_mul_right es h4
  have hcur : ∀ (q : Nat) (u : Value), us[q]? = some u → cur[q]? = some u := fun q u hq => by
    rw [← h7, List.getElem?_take] at hq
    split at hq
    · simpa using hq
    · cases hq
  have hgr := new_grow (Wt := Wt) hs (blk := .sym es l) trivial h2 h3 hbl hg.size hg.os hg.tape hg.output (by simp [Blk.rows, Blk.es]; omega) (fun i row hi => by
    obtain ⟨q1, q2⟩ := flat_rows (m := m) (F := fun _ _ _ => True) hw hc hi
    exact ⟨q1, fun j x hj => let ⟨u, q3, q4⟩ := q2 j x hj; ⟨u, hcur _ u q3, q4⟩⟩)
  refine ⟨_, hgr.1, hgr.2, row_new (if_pos rfl) rfl (by simp [Blk.rows]) (fun c' hc' => by cases hc') h4 (fun c' hc' => by cases hc') (fun j hj => ?_)⟩
  have hcl : w'.cell? ⟨g, 0 + j, none⟩ = cur[0 + j]? := by simp only [World.cell?, h3, Option.isSome_none, Bool.false_eq_true, if_false]
  have hj' : j < cap * es := hj
  rw [hcl]
  refine ⟨by simp; omega, by simp only [World.frozen?, h3]; simp⟩
/-- An append to nil. -/
theorem app_nil (hs : Sat E m w) {t e : TypeId} {i : TypeInfo} {zv : Value} {src : List (List G)} {v : Value} (ty : TypeId) (ht : P.underlying t = some (.slice e)) (hi : P.info? e = some i) (hz : i.zero = some zv) (hzs : zv.cells.size = i.size) (h0 : 0 < i.size)
    (hR : Reads E w i.size src v) (hb : src.length * i.bytes ≤ 140737488355328) (hn : src.length ≤ 140737488355328) :
    ∃ v' w' E', (Builtin.append_ #[t, t] ty #[.slice none 0 0, v]).run P w = .ok v' w' ∧ Grow Wt E m w E' (m ++ [.sym i.size src]) w' ∧ Sat E' (m ++ [.sym i.size src]) w' ∧ CRep E' (m ++ [.sym i.size src]) w' (.row m.length i.size none) v' := by
  obtain ⟨A_, c, rfl, hc, hw, hR⟩ := hR
  rcases hR with rfl | ⟨a_, off, rfl, -, hcell⟩
  · have hg := add_grow (Wt := Wt) (w' := w) hs (blk := .sym i.size []) (r := none) (Nat.le_refl _) rfl rfl rfl (Stays.refl w) (fun _ _ => rfl) (fun _ _ h => by cases h) (fun _ => .inl ⟨rfl, rfl⟩)
    refine ⟨_, w, _, run_append_zero ht hi none A_ 0 0 c ty (Nat.le_refl _) w, hg.1, hg.2, by simp, rfl, fun blk hb' hl => ?_⟩
    simp at hb'
    subst hb'
    exact ⟨rfl, fun c' hc' => (by cases hc'), .inl ⟨if_pos rfl, rfl⟩⟩
  · by_cases hne : src = []
    · subst hne
      have hg := add_grow (Wt := Wt) (w' := w) hs (blk := .sym i.size []) (r := none) (Nat.le_refl _) rfl rfl rfl (Stays.refl w) (fun _ _ => rfl) (fun _ _ h => by cases h) (fun _ => .inl ⟨rfl, rfl⟩)
      refine ⟨_, w, _, run_append_zero ht hi none _ 0 0 c ty (Nat.le_refl _) w, hg.1, hg.2, by simp, rfl, fun blk hb' hl => ?_⟩
      simp at hb'
      subst hb'
      exact ⟨rfl, fun c' hc' => (by cases hc'), .inl ⟨if_pos rfl, rfl⟩⟩
    · obtain ⟨us, u1, u2, u3, u4⟩ := flat_cells hw h0 hcell
      obtain ⟨v', w', r1, r2, r3, _⟩ := run_append_own (P := P) w w.heap.size t ty e i zv i.size i.bytes ht hi hz rfl rfl hzs h0 (.slice none 0 0) 0 [] (World.ownsRow_nil w _ e i.size) (at_ a_ off) src.length c us u1 (fun j u hj => by rw [at_add]; exact u2 j u hj) u3 (by unfold maxLen; omega) (by simpa using hb) (Nat.le_refl _)
      obtain ⟨E', g1, g2, g3⟩ := owns_new (Wt := Wt) hs u1 hne h0 hw u4 (by simpa using r2) r3
      exact ⟨v', w', E', r1, g1, g2, g3⟩
theorem app_reads {es : Nat} {old src : List (List G)} (hw1 : ∀ (i : Nat) (r : List G), old[i]? = some r → r.length = es) (hw2 : ∀ (i : Nat) (r : List G), src[i]? = some r → r.length = es) : ∀ (i : Nat) (r : List G), (old ++ src)[i]? = some r → r.length = es := fun i r hi => by
  rw [List.getElem?_append] at hi
  split at hi
  · exact hw1 _ _ hi
  · exact hw2 _ _ hi
theorem app_cells {es : Nat} {old src : List (List G)} {us vs : List Value} (hu : us.length = old.length * es) (h1 : ∀ (i : Nat) (r : List G) (j : Nat) (x : G), old[i]? = some r → r[j]? = some x → ∃ u, us[i * es + j]? = some u ∧ GRep E.F w x u)
    (h2 : ∀ (i : Nat) (r : List G) (j : Nat) (x : G), src[i]? = some r → r[j]? = some x → ∃ u, vs[i * es + j]? = some u ∧ GRep E.F w x u) (hw : ∀ (i : Nat) (r : List G), old[i]? = some r → r.length = es) :
    ∀ (i : Nat) (r : List G) (j : Nat) (x : G), (old ++ src)[i]? = some r → r[j]? = some x → ∃ u, (us ++ vs)[i * es + j]? = some u ∧ GRep E.F w x u := fun i r j x hi hj => by
  rw [List.getElem?_append] at hi
  split at hi
  · rename_i hlt
    obtain ⟨u, q1, q2⟩ := h1 i r j x hi hj
    have : i * es + j < us.length := (List.getElem?_eq_some_iff.1 q1).1
    exact ⟨u, by rw [List.getElem?_append_left this]; exact q1, q2⟩
  · rename_i hge
    obtain ⟨u, q1, q2⟩ := h2 _ r j x hi hj
    refine ⟨u, ?_, q2⟩
    have e : i * es = old.length * es + (i - old.length) * es := by rw [← Nat.add_mul]; congr 1; omega
    rw [List.getElem?_append_right (by rw [hu, e]; omega), hu, e]
    rw [show old.length * es + (i - old.length) * es + j - old.length * es = (i - old.length) * es + j by omega]
    exact q1
/-- An append to a row of a live name. -/
theorem app_row (hs : Sat E m w) {t e : TypeId} {i : TypeInfo} {zv : Value} {old src : List (List G)} {v : Value} (ty : TypeId) (ht : P.underlying t = some (.slice e)) (hi : P.info? e = some i) (hz : i.zero = some zv) (hzs : zv.cells.size = i.size) (h0 : 0 < i.size)
    {b a_ base off c : Nat} {blk : Blk} (hb : m[b]? = some blk) (hl : blk.live) (hρ : E.ρ b = some (a_, base)) (hW : Wt b) (hD : Reads E w i.size old (.slice (some (at_ a_ off)) old.length c)) (hth : w.there a_ off (c * i.size))
    (hR : Reads E w i.size src v) (hbb : (old ++ src).length * i.bytes ≤ 140737488355328) (hn : (old ++ src).length ≤ 140737488355328) :
    ∃ v' w' E', (Builtin.append_ #[t, t] ty #[.slice (some (at_ a_ off)) old.length c, v]).run P w = .ok v' w' ∧ Grow Wt E m w E' (m.set b .dead ++ [.sym i.size (old ++ src)]) w' ∧ Sat E' (m.set b .dead ++ [.sym i.size (old ++ src)]) w' ∧ CRep E' (m.set b .dead ++ [.sym i.size (old ++ src)]) w' (.row m.length i.size none) v' := by
  have hlen : (m.set b .dead).length = m.length := by simp
  obtain ⟨A1, c1, e1, hc1, hw1, hD⟩ := hD
  simp only [Value.slice.injEq, true_and] at e1
  obtain ⟨rfl, rfl⟩ := e1
  obtain ⟨A2, c2, rfl, hc2, hw2, hR⟩ := hR
  have hD' : ∀ (i_ : Nat) (r : List G) (j : Nat) (x : G), old[i_]? = some r → r[j]? = some x → ∃ u, w.cell? (at_ a_ (off + (i_ * i.size + j))) = some u ∧ GRep E.F w x u := by
    rcases hD with rfl | ⟨a', off', e, -, h⟩
    · intro i_ r j x h; simp at h
    · simp only [at_, Option.some.injEq, Addr.mk.injEq, and_true] at e
      obtain ⟨rfl, rfl⟩ := e
      exact h
  obtain ⟨us, u1, u2, u3, u4⟩ := flat_cells hw1 h0 hD'
  obtain ⟨k0, ks0⟩ := kill_grow (Wt := Wt) hs b
  -- the same block, nothing written or the new cells behind the old ones
  have inplace : ∀ (vs : List Value) (w' : World), vs.length = src.length * i.size → (∀ (i_ : Nat) (r : List G) (j : Nat) (x : G), src[i_]? = some r → r[j]? = some x → ∃ u, vs[i_ * i.size + j]? = some u ∧ GRep E.F w x u) → (old ++ src).length ≤ c → w' = w.setCells a_ (off + old.length * i.size) vs →
      ∃ E', Grow Wt E m w E' (m.set b .dead ++ [.sym i.size (old ++ src)]) w' ∧ Sat E' (m.set b .dead ++ [.sym i.size (old ++ src)]) w' ∧ CRep E' (m.set b .dead ++ [.sym i.size (old ++ src)]) w' (.row m.length i.size none) (.slice (some (at_ a_ off)) (old ++ src).length c) := by
    intro vs w' hv hvs hc hw'
    obtain ⟨k1, k2, k3, k4, k5⟩ := setCells_keep w a_ vs (off + old.length * i.size) w
    rw [← hw'] at k1 k2 k3 k4 k5
    have hst : Stays w w' := by rw [hw']; exact stays_setCells _ _ _ _
    have hcm := Nat.mul_le_mul_right i.size hc
    have hlm : (old ++ src).length * i.size = old.length * i.size + src.length * i.size := by rw [List.length_append, Nat.add_mul]
    have hth' : w'.there a_ off (c * i.size) := there_stays hst hth
    have hsome : ∀ j, j < vs.length → (w.cell? ⟨a_, off + old.length * i.size + j, none⟩).isSome = true := fun j hj => by
      rw [Nat.add_assoc]
      exact (hth _ (by omega)).1
    have hdis := hs.dis b blk a_ base hb hl hρ
    have hfr : ∀ k, E.F k → w'.heap[k]? = w.heap[k]? := fun k hk => k5 k (fun e => by subst e; exact hdis.1 hk)
    have hg := move_grow (Wt := Wt) (off := off) hs hb hl hρ hW k1 k2 k3 k4 k5 hst (blk' := .sym i.size (old ++ src)) (fun j hj => hth' j (by
      have : j < (old ++ src).length * i.size := by simpa [Blk.rows, Blk.es] using hj
      omega)) (fun q row hq => by
      obtain ⟨q1, q2⟩ := flat_rows (E := E) (m := m) (w := w) (F := fun _ _ _ => True) (us := us ++ vs) (app_reads hw1 hw2) (app_cells u1 u4 hvs hw1) hq
      refine ⟨q1, fun j x hj => ?_⟩
      obtain ⟨u, q3, q4⟩ := q2 j x hj
      have hx : ∃ g, x = .g g := by
        simp only [Blk.rows, List.getElem?_map] at hq
        cases hr : (old ++ src)[q]? with
        | none => simp [hr] at hq
        | some r =>
          simp [hr] at hq
          subst hq
          rw [List.getElem?_map] at hj
          cases hr2 : r[j]? with
          | none => simp [hr2] at hj
          | some g => simp [hr2] at hj; exact ⟨g, hj.symm⟩
      obtain ⟨g, rfl⟩ := hx
      refine ⟨u, ?_, .inl ⟨g, rfl, GRep.step (fun _ h => h) hfr q4⟩⟩
      rw [hw']
      show (w.setCells a_ (off + old.length * i.size) vs).cell? (at_ a_ (off + (q * i.size + j))) = some u
      rw [List.getElem?_append] at q3
      split at q3
      · rename_i hlt
        rw [World.cell?_setCells_out a_ _ _ w _ (fun _ _ => .inl (by simp only [at_]; omega))]
        exact u2 _ _ q3
      · rename_i hge
        obtain ⟨hlt, hv'⟩ := List.getElem?_eq_some_iff.1 q3
        have := World.cell?_setCells_in a_ vs (off + old.length * i.size) w hsome _ hlt
        rw [hv'] at this
        rw [← this]
        unfold at_
        congr 2
        omega)
    refine ⟨_, hg.1, hg.2, by simp, rfl, fun blk' hb' hl' => ?_⟩
    rw [List.getElem?_append_right (by simp), hlen] at hb'
    simp at hb'
    subst hb'
    exact ⟨rfl, fun c' hc' => (by cases hc'), .inr ⟨a_, off, c, if_pos rfl, by simp [Blk.rows], by simpa [Blk.rows] using hc, fun c' hc' => (by cases hc'), hth'⟩⟩
  have hempty : src = [] → ∃ v' w' E', (Builtin.append_ #[t, t] ty #[.slice (some (at_ a_ off)) old.length c, .slice A2 src.length c2]).run P w = .ok v' w' ∧ Grow Wt E m w E' (m.set b .dead ++ [.sym i.size (old ++ src)]) w' ∧ Sat E' (m.set b .dead ++ [.sym i.size (old ++ src)]) w' ∧ CRep E' (m.set b .dead ++ [.sym i.size (old ++ src)]) w' (.row m.length i.size none) v' := by
    rintro rfl
    obtain ⟨E', g1, g2, g3⟩ := inplace [] w (by simp) (fun i_ r j x h => by simp at h) (by simpa using hc1) rfl
    exact ⟨_, w, E', run_append_zero ht hi _ A2 old.length c c2 ty hc1 w, g1, g2, by simpa using g3⟩
  rcases hR with h | ⟨a2, off2, rfl, -, hcell⟩
  · exact hempty h
  by_cases hne : src = []
  · exact hempty hne
  obtain ⟨vs, v1, v2, v3, v4⟩ := flat_cells hw2 h0 hcell
  by_cases hroom : (old ++ src).length ≤ c
  · obtain ⟨E', g1, g2, g3⟩ := inplace vs _ v1 v4 hroom rfl
    have hcm := Nat.mul_le_mul_right i.size hroom
    have hlm : (old ++ src).length * i.size = old.length * i.size + src.length * i.size := by rw [List.length_append, Nat.add_mul]
    have hr := run_append_room_cells (P := P) w t ty e i ht hi a_ off old.length c (at_ a2 off2) src.length c2 vs v1 (fun j u hj => by rw [at_add]; exact v2 j u hj) v3 (by simpa using hroom) (fun j hj => by
      rw [Nat.add_assoc]; exact (hth _ (by omega)).1) (fun j hj => by
      rw [Nat.add_assoc]; exact (hth _ (by omega)).2)
    rw [List.length_append] at g3
    exact ⟨_, _, E', hr, g1, g2, g3⟩
  · obtain ⟨v', w', r1, r2, r3⟩ := run_append_arg_grows (P := P) w t ty e i zv i.size i.bytes ht hi hz rfl rfl hzs h0 (at_ a_ off) old.length c us u1 (fun j u hj => by rw [at_add]; exact u2 j u hj) (at_ a2 off2) src.length c2 vs v1 (fun j u hj => by rw [at_add]; exact v2 j u hj) (by simp at hroom; omega) (by unfold maxLen; simp at hn; omega) (by simpa using hbb)
    obtain ⟨E', g1, g2, g3⟩ := owns_new (Wt := Wt) (l := old ++ src) ks0 (by rw [List.length_append, u1, v1, List.length_append, Nat.add_mul]) (by simp [hne]) h0 (app_reads hw1 hw2) (app_cells u1 u4 v4 hw1) (by simpa using r2) r3
    rw [hlen] at g3
    exact ⟨v', w', E', r1, k0.trans g1 (fun _ _ h => h), g2, g3⟩
/-- What an append that grows leaves, cell by cell. -/
theorem owns_blk (hs : Sat E m w) {blk : Blk} (hlv : blk.live) (hnm : ∀ ag l, blk ≠ .mp ag l) {es : Nat} (hes : blk.es = es) {us : List Value} {e : TypeId} {v : Value} (hl : us.length = blk.rows.length * es) (hne : blk.rows ≠ []) (h0 : 0 < es)
    (hrows : ∀ (i : Nat) (row : List C), blk.rows[i]? = some row → row.length = es ∧ ∀ (j : Nat) (x : C), row[j]? = some x → ∃ u, us[i * es + j]? = some u ∧ CRep E m w x u) (ho : w'.ownsRow w.heap.size e es v blk.rows.length us) (hg : w.grownBy w' none) :
    ∃ E', Grow Wt E m w E' (m ++ [blk]) w' ∧ Sat E' (m ++ [blk]) w' ∧ CRep E' (m ++ [blk]) w' (.row m.length es none) v := by
  obtain ⟨h1, ⟨_, h2⟩ | ⟨g, cap, cur, rfl, h2, h3, h4, h5, h6, h7⟩⟩ := ho
  · exact absurd (List.eq_nil_of_length_eq_zero h2) hne
  have hbl : ∀ k, k < w.heap.size → w'.heap[k]? = w.heap[k]? := fun k hk => hg.block k hk (by simp)
  have hcap := Nat.mul_le_mul_right es h4
  have hcur : ∀ (q : Nat) (u : Value), us[q]? = some u → cur[q]? = some u := fun q u hq => by
    rw [← h7, List.getElem?_take] at hq
    split at hq
    · simpa using hq
    · cases hq
  have hgr := new_grow (Wt := Wt) hs (blk := blk) hlv h2 h3 hbl hg.size hg.os hg.tape hg.output (by rw [hes]; omega) (fun i row hi => by
    obtain ⟨q1, q2⟩ := hrows i row hi
    rw [hes]
    exact ⟨q1, fun j x hj => let ⟨u, q3, q4⟩ := q2 j x hj; ⟨u, hcur _ u q3, q4⟩⟩) (hnm := hnm)
  refine ⟨_, hgr.1, hgr.2, row_new (if_pos rfl) hes rfl (fun c' hc' => by cases hc') h4 (fun c' hc' => by cases hc') (fun j hj => ?_)⟩
  have hcl : w'.cell? ⟨g, 0 + j, none⟩ = cur[0 + j]? := by simp only [World.cell?, h3, Option.isSome_none, Bool.false_eq_true, if_false]
  have hj' : j < cap * es := hj
  rw [hcl]
  refine ⟨by simp; omega, by simp only [World.frozen?, h3]; simp⟩
/-- An append of rows that are known cell by cell to nil. -/
theorem app_nil_lit (hs : Sat E m w) {t e : TypeId} {i : TypeInfo} {zv : Value} {rows : List (List C)} {b : Nat} {cap : Option NN} {v : Value} (ty : TypeId) (ht : P.underlying t = some (.slice e)) (hi : P.info? e = some i) (hz : i.zero = some zv) (hzs : zv.cells.size = i.size) (h0 : 0 < i.size)
    (hm : m[b]? = some (.lit i.size rows)) (hv : CRep E m w (.row b i.size cap) v) (hb : rows.length * i.bytes ≤ 140737488355328) (hn : rows.length ≤ 140737488355328) :
    ∃ v' w' E', (Builtin.append_ #[t, t] ty #[.slice none 0 0, v]).run P w = .ok v' w' ∧ Grow Wt E m w E' (m ++ [.lit i.size rows]) w' ∧ Sat E' (m ++ [.lit i.size rows]) w' ∧ CRep E' (m ++ [.lit i.size rows]) w' (.row m.length i.size none) v' := by
  obtain ⟨_, _, hv⟩ := hv
  obtain ⟨_, _, hv⟩ := hv _ hm trivial
  have none_ : rows = [] → (∃ A_ c, v = .slice A_ 0 c) → ∃ v' w' E', (Builtin.append_ #[t, t] ty #[.slice none 0 0, v]).run P w = .ok v' w' ∧ Grow Wt E m w E' (m ++ [.lit i.size rows]) w' ∧ Sat E' (m ++ [.lit i.size rows]) w' ∧ CRep E' (m ++ [.lit i.size rows]) w' (.row m.length i.size none) v' := by
    rintro rfl ⟨A_, c, rfl⟩
    have hg := add_grow (Wt := Wt) (w' := w) hs (blk := .lit i.size []) (r := none) (Nat.le_refl _) rfl rfl rfl (Stays.refl w) (fun _ _ => rfl) (fun _ _ h => by cases h) (fun _ => .inl ⟨rfl, rfl⟩)
    refine ⟨_, w, _, run_append_zero ht hi none A_ 0 0 c ty (Nat.le_refl _) w, hg.1, hg.2, by simp, rfl, fun blk hb' hl => ?_⟩
    simp at hb'
    subst hb'
    exact ⟨rfl, fun c' hc' => (by cases hc'), .inl ⟨if_pos rfl, rfl⟩⟩
  have hrep := hs.rep b _ hm trivial
  rcases hv with ⟨e1, e2⟩ | ⟨a_, base, c, e1, e2, e3, _, _⟩
  · refine none_ ?_ ⟨none, 0, e2⟩
    rcases hrep with ⟨_, h⟩ | ⟨a', base', h, _⟩
    · exact h
    · rw [e1] at h; cases h
  · by_cases hne : rows = []
    · exact none_ hne ⟨some (at_ a_ base), c, by rw [e2]; subst hne; rfl⟩
    rcases hrep with ⟨h, _⟩ | ⟨a', base', h, g1, g2, g3⟩
    · rw [e1] at h; cases h
    rw [e1] at h
    cases h
    have g3 : ∀ (q : Nat) (row : List C), rows[q]? = some row → row.length = i.size ∧ ∀ (j : Nat) (x : C), row[j]? = some x → ∃ u, w.cell? (at_ a_ (base + (q * i.size + j))) = some u ∧ CRep E m w x u := g3
    have key : ∀ q, q < rows.length * i.size → ∃ u, w.cell? (at_ a_ (base + q)) = some u ∧ u.oneCell' = true := fun q hq => by
      have hi' : q / i.size < rows.length := Nat.div_lt_of_lt_mul (by rw [Nat.mul_comm]; exact hq)
      have hj : q % i.size < i.size := Nat.mod_lt _ h0
      have hr : rows[q / i.size]? = some rows[q / i.size] := List.getElem?_eq_getElem hi'
      obtain ⟨hrl, hc⟩ := g3 _ _ hr
      obtain ⟨u, q1, q2⟩ := hc (q % i.size) _ (List.getElem?_eq_getElem (by omega))
      rw [Nat.div_add_mod'] at q1
      exact ⟨u, q1, q2.one⟩
    obtain ⟨us, hus⟩ : ∃ us : List Value, us = (List.range (rows.length * i.size)).map fun q => (w.cell? (at_ a_ (base + q))).getD undef := ⟨_, rfl⟩
    have hul : us.length = rows.length * i.size := by rw [hus]; simp
    have hug : ∀ q, q < rows.length * i.size → us[q]? = w.cell? (at_ a_ (base + q)) := fun q hq => by
      obtain ⟨u, q1, _⟩ := key q hq
      rw [hus, List.getElem?_map, List.getElem?_range hq, q1]
      simp [q1]
    have u2 : ∀ (j : Nat) (u : Value), us[j]? = some u → w.cell? (at_ a_ (base + j)) = some u := fun j u hj => by
      have hlt := (List.getElem?_eq_some_iff.1 hj).1
      rw [← hug j (by omega)]
      exact hj
    have u3 : ∀ u ∈ us, u.oneCell' = true := fun u hu => by
      obtain ⟨q, hq⟩ := List.mem_iff_getElem?.1 hu
      have hlt := (List.getElem?_eq_some_iff.1 hq).1
      obtain ⟨u', q1, q2⟩ := key q (by omega)
      rw [hug q (by omega), q1] at hq
      cases hq
      exact q2
    obtain ⟨v', w', r1, r2, r3, _⟩ := run_append_own (P := P) w w.heap.size t ty e i zv i.size i.bytes ht hi hz rfl rfl hzs h0 (.slice none 0 0) 0 [] (World.ownsRow_nil w _ e i.size) (at_ a_ base) rows.length c us hul (fun j u hj => by rw [at_add]; exact u2 j u hj) u3 (by unfold maxLen; omega) (by simpa using hb) (Nat.le_refl _)
    obtain ⟨E', k1, k2, k3⟩ := owns_blk (Wt := Wt) (blk := .lit i.size rows) hs trivial (fun _ _ h => by cases h) rfl hul hne h0 (fun q row hq => by
      have hq : rows[q]? = some row := hq
      obtain ⟨q1, q2⟩ := g3 q row hq
      refine ⟨q1, fun j x hj => ?_⟩
      obtain ⟨u, q3, q4⟩ := q2 j x hj
      have hql : q < rows.length := (List.getElem?_eq_some_iff.1 hq).1
      have hjl : j < i.size := by rw [← q1]; exact (List.getElem?_eq_some_iff.1 hj).1
      have hmul := Nat.mul_le_mul_right i.size (show q + 1 ≤ rows.length from hql)
      rw [Nat.add_mul] at hmul
      have hfin : us[q * i.size + j]? = some u := by rw [hug _ (show q * i.size + j < rows.length * i.size from by omega)]; exact q3
      exact ⟨u, hfin, q4⟩) (by simpa [Blk.rows, Blk.es] using r2) r3
    exact ⟨v', w', E', by rw [e2]; exact r1, k1, k2, k3⟩
/-- The cells of rows that are known cell by cell. -/
theorem lit_cells (hs : Sat E m w) {es : Nat} {rows : List (List C)} {b : Nat} {cap : Option NN} {v : Value} (h0 : 0 < es) (hm : m[b]? = some (.lit es rows)) (hne : rows ≠ []) (hv : CRep E m w (.row b es cap) v) :
    ∃ (a_ base c : Nat) (us : List Value), v = .slice (some (at_ a_ base)) rows.length c ∧ capIs cap c ∧ us.length = rows.length * es ∧ (∀ (j : Nat) (u : Value), us[j]? = some u → w.cell? (at_ a_ (base + j)) = some u) ∧
      (∀ (q : Nat) (row : List C), rows[q]? = some row → row.length = es ∧ ∀ (j : Nat) (x : C), row[j]? = some x → ∃ u, us[q * es + j]? = some u ∧ CRep E m w x u) := by
  obtain ⟨_, _, hv⟩ := hv
  obtain ⟨_, _, hv⟩ := hv _ hm trivial
  have hrep := hs.rep b _ hm trivial
  rcases hv with ⟨e1, e2⟩ | ⟨a_, base, c, e1, e2, e3, e4, _⟩
  · rcases hrep with ⟨_, h⟩ | ⟨a', base', h, _⟩
    · exact absurd h hne
    · rw [e1] at h; cases h
  · rcases hrep with ⟨h, _⟩ | ⟨a', base', h, g1, g2, g3⟩
    · rw [e1] at h; cases h
    rw [e1] at h
    cases h
    have g3 : ∀ (q : Nat) (row : List C), rows[q]? = some row → row.length = es ∧ ∀ (j : Nat) (x : C), row[j]? = some x → ∃ u, w.cell? (at_ a_ (base + (q * es + j))) = some u ∧ CRep E m w x u := g3
    have key : ∀ q, q < rows.length * es → ∃ u, w.cell? (at_ a_ (base + q)) = some u := fun q hq => by
      have hi' : q / es < rows.length := Nat.div_lt_of_lt_mul (by rw [Nat.mul_comm]; exact hq)
      have hj : q % es < es := Nat.mod_lt _ h0
      have hr : rows[q / es]? = some rows[q / es] := List.getElem?_eq_getElem hi'
      obtain ⟨hrl, hc⟩ := g3 _ _ hr
      obtain ⟨u, q1, q2⟩ := hc (q % es) _ (List.getElem?_eq_getElem (by omega))
      rw [Nat.div_add_mod'] at q1
      exact ⟨u, q1⟩
    obtain ⟨us, hus⟩ : ∃ us : List Value, us = (List.range (rows.length * es)).map fun q => (w.cell? (at_ a_ (base + q))).getD undef := ⟨_, rfl⟩
    have hul : us.length = rows.length * es := by rw [hus]; simp
    have hug : ∀ q, q < rows.length * es → us[q]? = w.cell? (at_ a_ (base + q)) := fun q hq => by
      obtain ⟨u, q1⟩ := key q hq
      rw [hus, List.getElem?_map, List.getElem?_range hq, q1]
      simp [q1]
    refine ⟨a_, base, c, us, e2, e4, hul, fun j u hj => ?_, fun q row hq => ?_⟩
    · have hlt := (List.getElem?_eq_some_iff.1 hj).1
      rw [← hug j (by omega)]
      exact hj
    · obtain ⟨q1, q2⟩ := g3 q row hq
      refine ⟨q1, fun j x hj => ?_⟩
      obtain ⟨u, q3, q4⟩ := q2 j x hj
      have hql : q < rows.length := (List.getElem?_eq_some_iff.1 hq).1
      have hjl : j < es := by rw [← q1]; exact (List.getElem?_eq_some_iff.1 hj).1
      have hmul := Nat.mul_le_mul_right es (show q + 1 ≤ rows.length from hql)
      rw [Nat.add_mul] at hmul
      have hfin : us[q * es + j]? = some u := by rw [hug _ (show q * es + j < rows.length * es from by omega)]; exact q3
      exact ⟨u, hfin, q4⟩
/-- An append of rows that are known cell by cell to such rows that have no room. -/
theorem app_grow_lit (hs : Sat E m w) {t e : TypeId} {i : TypeInfo} {zv : Value} {rows1 rows2 : List (List C)} {b1 b2 n : Nat} {cap2 : Option NN} {v1 v2 : Value} (ty : TypeId) (ht : P.underlying t = some (.slice e)) (hi : P.info? e = some i) (hz : i.zero = some zv) (hzs : zv.cells.size = i.size) (h0 : 0 < i.size)
    (hm1 : m[b1]? = some (.lit i.size rows1)) (hm2 : m[b2]? = some (.lit i.size rows2)) (hne1 : rows1 ≠ []) (hne2 : rows2 ≠ []) (hn1 : n = rows1.length) (hv1 : CRep E m w (.row b1 i.size (some (.lit n))) v1) (hv2 : CRep E m w (.row b2 i.size cap2) v2)
    (hb : (rows1 ++ rows2).length * i.bytes ≤ 140737488355328) (hn : (rows1 ++ rows2).length ≤ 140737488355328) :
    ∃ v' w' E', (Builtin.append_ #[t, t] ty #[v1, v2]).run P w = .ok v' w' ∧ Grow Wt E m w E' (m ++ [.lit i.size (rows1 ++ rows2)]) w' ∧ Sat E' (m ++ [.lit i.size (rows1 ++ rows2)]) w' ∧ CRep E' (m ++ [.lit i.size (rows1 ++ rows2)]) w' (.row m.length i.size none) v' := by
  obtain ⟨a1, base1, c1, us, e1, k1, u1, u2, u3⟩ := lit_cells hs h0 hm1 hne1 hv1
  obtain ⟨a2, base2, c2, vs, e2, k2, v1', v2', v3⟩ := lit_cells hs h0 hm2 hne2 hv2
  have hc1 : c1 = rows1.length := by rw [← hn1]; exact k1 _ rfl
  have hp2 : 0 < rows2.length := List.length_pos_iff.2 hne2
  obtain ⟨v', w', r1, r2, r3⟩ := run_append_arg_grows (P := P) w t ty e i zv i.size i.bytes ht hi hz rfl rfl hzs h0 (at_ a1 base1) rows1.length c1 us u1 (fun j u hj => by rw [at_add]; exact u2 j u hj) (at_ a2 base2) rows2.length c2 vs v1' (fun j u hj => by rw [at_add]; exact v2' j u hj) (by omega) (by unfold maxLen; simp at hn; omega) (by simpa using hb)
  obtain ⟨E', g1, g2, g3⟩ := owns_blk (Wt := Wt) (blk := .lit i.size (rows1 ++ rows2)) (us := us ++ vs) hs trivial (fun _ _ h => by cases h) rfl (by show (us ++ vs).length = (rows1 ++ rows2).length * i.size; rw [List.length_append, List.length_append, u1, v1', Nat.add_mul]) (by simp [Blk.rows, hne1]) h0 (fun q row hq => by
    have hq : (rows1 ++ rows2)[q]? = some row := hq
    rw [List.getElem?_append] at hq
    split at hq
    · obtain ⟨q1, q2⟩ := u3 q row hq
      refine ⟨q1, fun j x hj => ?_⟩
      obtain ⟨u, q3, q4⟩ := q2 j x hj
      exact ⟨u, by show (us ++ vs)[q * i.size + j]? = some u; rw [List.getElem?_append_left (List.getElem?_eq_some_iff.1 q3).1]; exact q3, q4⟩
    · rename_i hge
      obtain ⟨q1, q2⟩ := v3 _ row hq
      refine ⟨q1, fun j x hj => ?_⟩
      obtain ⟨u, q3, q4⟩ := q2 j x hj
      have hmul : (q - rows1.length) * i.size = q * i.size - rows1.length * i.size := Nat.sub_mul _ _ _
      have hle := Nat.mul_le_mul_right i.size (Nat.not_lt.1 hge)
      refine ⟨u, ?_, q4⟩
      show (us ++ vs)[q * i.size + j]? = some u
      rw [List.getElem?_append_right (by rw [u1]; omega), u1, show q * i.size + j - rows1.length * i.size = (q - rows1.length) * i.size + j from by omega]
      exact q3) (by simpa [Blk.rows, Blk.es] using r2) r3
  exact ⟨v', w', E', by rw [e1, e2]; exact r1, g1, g2, g3⟩
/-- An append of rows that are known cell by cell to such rows, whatever their room: the old name is forgotten. -/
theorem app_any_lit (hs : Sat E m w) {t e : TypeId} {i : TypeInfo} {zv : Value} {rows1 rows2 : List (List C)} {b1 b2 : Nat} {cap1 cap2 : Option NN} {v1 v2 : Value} (ty : TypeId) (ht : P.underlying t = some (.slice e)) (hi : P.info? e = some i) (hz : i.zero = some zv) (hzs : zv.cells.size = i.size) (h0 : 0 < i.size)
    (hm1 : m[b1]? = some (.lit i.size rows1)) (hm2 : m[b2]? = some (.lit i.size rows2)) (hne1 : rows1 ≠ []) (hne2 : rows2 ≠ []) (hW : Wt b1) (hv1 : CRep E m w (.row b1 i.size cap1) v1) (hv2 : CRep E m w (.row b2 i.size cap2) v2)
    (hb : (rows1 ++ rows2).length * i.bytes ≤ 140737488355328) (hn : (rows1 ++ rows2).length ≤ 140737488355328) :
    ∃ v' w' E', (Builtin.append_ #[t, t] ty #[v1, v2]).run P w = .ok v' w' ∧ Grow Wt E m w E' (m.set b1 .dead ++ [.lit i.size (rows1 ++ rows2)]) w' ∧ Sat E' (m.set b1 .dead ++ [.lit i.size (rows1 ++ rows2)]) w' ∧ CRep E' (m.set b1 .dead ++ [.lit i.size (rows1 ++ rows2)]) w' (.row m.length i.size none) v' := by
  have hlen : (m.set b1 .dead).length = m.length := by simp
  have hv1' := hv1
  obtain ⟨a1, base1, c1, us, e1, k1, u1, u2, u3⟩ := lit_cells hs h0 hm1 hne1 hv1
  obtain ⟨a2, base2, c2, vs, e2, k2, v1', v2', v3⟩ := lit_cells hs h0 hm2 hne2 hv2
  obtain ⟨hρ, hth, hc1⟩ : E.ρ b1 = some (a1, base1) ∧ w.there a1 base1 (c1 * i.size) ∧ rows1.length ≤ c1 := by
    obtain ⟨_, _, h⟩ := hv1'
    obtain ⟨_, _, ⟨_, h⟩ | ⟨a', base', c', g1, g2, g3, _, g5⟩⟩ := h _ hm1 trivial
    · rw [e1] at h; cases h
    · rw [e1] at g2
      simp only [at_, Value.slice.injEq, Option.some.injEq, Addr.mk.injEq, and_true] at g2
      obtain ⟨⟨rfl, rfl⟩, _, rfl⟩ := g2
      exact ⟨g1, g5, g3⟩
  have hp2 : 0 < rows2.length := List.length_pos_iff.2 hne2
  have cells : ∀ (q : Nat) (row : List C), (rows1 ++ rows2)[q]? = some row → row.length = i.size ∧ ∀ (j : Nat) (x : C), row[j]? = some x → ∃ u, (us ++ vs)[q * i.size + j]? = some u ∧ CRep E m w x u := fun q row hq => by
    rw [List.getElem?_append] at hq
    split at hq
    · obtain ⟨q1, q2⟩ := u3 q row hq
      refine ⟨q1, fun j x hj => ?_⟩
      obtain ⟨u, q3, q4⟩ := q2 j x hj
      exact ⟨u, by rw [List.getElem?_append_left (List.getElem?_eq_some_iff.1 q3).1]; exact q3, q4⟩
    · rename_i hge
      obtain ⟨q1, q2⟩ := v3 _ row hq
      refine ⟨q1, fun j x hj => ?_⟩
      obtain ⟨u, q3, q4⟩ := q2 j x hj
      have hmul : (q - rows1.length) * i.size = q * i.size - rows1.length * i.size := Nat.sub_mul _ _ _
      have hle := Nat.mul_le_mul_right i.size (Nat.not_lt.1 hge)
      refine ⟨u, ?_, q4⟩
      rw [List.getElem?_append_right (by rw [u1]; omega), u1, show q * i.size + j - rows1.length * i.size = (q - rows1.length) * i.size + j from by omega]
      exact q3
  have v4 : ∀ u ∈ vs, u.oneCell' = true := fun u hu => by
    obtain ⟨q, hq⟩ := List.mem_iff_getElem?.1 hu
    have hlt := (List.getElem?_eq_some_iff.1 hq).1
    have hi' : q / i.size < rows2.length := Nat.div_lt_of_lt_mul (by rw [Nat.mul_comm]; omega)
    have hj : q % i.size < i.size := Nat.mod_lt _ h0
    have hr : rows2[q / i.size]? = some rows2[q / i.size] := List.getElem?_eq_getElem hi'
    obtain ⟨hrl, hc⟩ := v3 _ _ hr
    obtain ⟨u', q1, q2⟩ := hc (q % i.size) _ (List.getElem?_eq_getElem (by omega))
    rw [Nat.div_add_mod', hq] at q1
    cases q1
    exact q2.one
  by_cases hroom : rows1.length + rows2.length ≤ c1
  · have hcm := Nat.mul_le_mul_right i.size hroom
    rw [Nat.add_mul] at hcm
    obtain ⟨w', hw'⟩ : ∃ w', w' = w.setCells a1 (base1 + rows1.length * i.size) vs := ⟨_, rfl⟩
    obtain ⟨s1, s2, s3, s4, s5⟩ := setCells_keep w a1 vs (base1 + rows1.length * i.size) w
    rw [← hw'] at s1 s2 s3 s4 s5
    have hst : Stays w w' := by rw [hw']; exact stays_setCells _ _ _ _
    have hth' : w'.there a1 base1 (c1 * i.size) := there_stays hst hth
    have hsome : ∀ j, j < vs.length → (w.cell? ⟨a1, base1 + rows1.length * i.size + j, none⟩).isSome = true := fun j hj => by
      rw [Nat.add_assoc]
      exact (hth _ (by omega)).1
    have hg := move_grow (Wt := Wt) (off := base1) hs hm1 trivial hρ hW s1 s2 s3 s4 s5 hst (blk' := .lit i.size (rows1 ++ rows2)) (fun j hj => hth' j (by
      have : j < (rows1 ++ rows2).length * i.size := hj
      rw [List.length_append, Nat.add_mul] at this
      omega)) (fun q row hq => by
      obtain ⟨q1, q2⟩ := cells q row hq
      refine ⟨q1, fun j x hj => ?_⟩
      obtain ⟨u, q3, q4⟩ := q2 j x hj
      refine ⟨u, ?_, .inr q4⟩
      rw [hw']
      show (w.setCells a1 (base1 + rows1.length * i.size) vs).cell? (at_ a1 (base1 + (q * i.size + j))) = some u
      rw [List.getElem?_append] at q3
      split at q3
      · rename_i hlt
        rw [World.cell?_setCells_out a1 _ _ w _ (fun _ _ => .inl (by simp only [at_]; omega))]
        exact u2 _ _ q3
      · rename_i hge
        obtain ⟨hlt, hv'⟩ := List.getElem?_eq_some_iff.1 q3
        have := World.cell?_setCells_in a1 vs (base1 + rows1.length * i.size) w hsome _ hlt
        rw [hv'] at this
        rw [← this]
        unfold at_
        congr 2
        omega)
    have hr := run_append_room_cells (P := P) w t ty e i ht hi a1 base1 rows1.length c1 (at_ a2 base2) rows2.length c2 vs v1' (fun j u hj => by rw [at_add]; exact v2' j u hj) v4 hroom (fun j hj => by
      rw [Nat.add_assoc]; exact (hth _ (by omega)).1) (fun j hj => by
      rw [Nat.add_assoc]; exact (hth _ (by omega)).2)
    refine ⟨_, w', _, by rw [e1, e2]; rw [hw']; exact hr, hg.1, hg.2, by simp, rfl, fun blk' hb' hl' => ?_⟩
    rw [List.getElem?_append_right (by simp), hlen] at hb'
    simp at hb'
    subst hb'
    exact ⟨rfl, fun c' hc' => (by cases hc'), .inr ⟨a1, base1, c1, if_pos rfl, by simp [Blk.rows, at_], by simpa [Blk.rows] using hroom, fun c' hc' => (by cases hc'), hth'⟩⟩
  · obtain ⟨k0, ks0⟩ := kill_grow (Wt := Wt) hs b1
    obtain ⟨v', w', r1, r2, r3⟩ := run_append_arg_grows (P := P) w t ty e i zv i.size i.bytes ht hi hz rfl rfl hzs h0 (at_ a1 base1) rows1.length c1 us u1 (fun j u hj => by rw [at_add]; exact u2 j u hj) (at_ a2 base2) rows2.length c2 vs v1' (fun j u hj => by rw [at_add]; exact v2' j u hj) (by omega) (by unfold maxLen; simp at hn; omega) (by simpa using hb)
    obtain ⟨E', g1, g2, g3⟩ := owns_blk (Wt := Wt) (blk := .lit i.size (rows1 ++ rows2)) (us := us ++ vs) ks0 trivial (fun _ _ h => by cases h) rfl (by show (us ++ vs).length = (rows1 ++ rows2).length * i.size; rw [List.length_append, List.length_append, u1, v1', Nat.add_mul]) (by simp [Blk.rows, hne1]) h0 (fun q row hq => by
      obtain ⟨q1, q2⟩ := cells q row hq
      refine ⟨q1, fun j x hj => ?_⟩
      obtain ⟨u, q3, q4⟩ := q2 j x hj
      exact ⟨u, q3, q4.step k0.toStep⟩) (by simpa [Blk.rows, Blk.es] using r2) r3
    rw [hlen] at g3
    exact ⟨v', w', E', by rw [e1, e2]; exact r1, k0.trans g1 (fun _ _ h => h), g2, g3⟩
end
end Go.Proofs.Ytccfcenhpmdemaa.E
