/- Contracts for FabricBounds, packed: E8 E9 E10 E16 E11. -/
import Derived.Test.YtofdnnjkfpomcaaZFabricBounds1
import Derived.MapKept
import Derived.ChangeKeysEq
import Derived.Laws.IdiomCopy
import Derived.Laws.IdiomStrings
import Derived.Lib.AppendZeros
/- Appending. -/
namespace Go.Proofs.Ytofdnnjkfpomcaa.E
open Go
set_option linter.unusedVariables false

section
variable {P : Program} {I : Ints} {p : Nat} {E : Env} {m : Mem} {w w' : World} {ts : List A} {a : Act}
variable {Wt : Nat → Prop}
/-- A slice whose elements read as l. -/
def ReadsT (T : Nat → Prop) (E : Env) (w : World) (es : Nat) (l : List (List G)) (v : Value) : Prop :=
 ∃ A_ c, v = .slice A_ l.length c ∧ l.length ≤ c ∧ (∀ (i : Nat) (r : List G), l[i]? = some r → r.length = es) ∧
  (l = [] ∨ ∃ a_ off, A_ = some (at_ a_ off) ∧ T a_ ∧ ∀ (i : Nat) (r : List G) (j : Nat) (x : G), l[i]? = some r → r[j]? = some x → ∃ u, w.cell? (at_ a_ (off + (i * es + j))) = some u ∧ GRep E.F w x u)
abbrev Reads (E : Env) (w : World) (es : Nat) (l : List (List G)) (v : Value) : Prop := ReadsT (fun _ => True) E w es l v
theorem ReadsT.mono {T T' : Nat → Prop} {es : Nat} {l : List (List G)} {v : Value} (h : ReadsT T E w es l v) (hT : ∀ k, T k → T' k) : ReadsT T' E w es l v := by
 obtain ⟨A_, c, h1, h2, h3, h4⟩ := h
 exact ⟨A_, c, h1, h2, h3, h4.imp id fun ⟨a_, off, q1, q2, q3⟩ => ⟨a_, off, q1, hT a_ q2, q3⟩⟩
theorem reads_row {T : Nat → Prop} {es c : Nat} {l : List (List G)} {A_ : Option Addr} {u : Nat → Nat → Value} (hc : l.length ≤ c) (h : RowAt w T es l A_ u) (hg : ∀ (i : Nat) (r : List G) (j : Nat) (x : G), l[i]? = some r → r[j]? = some x → GRep E.F w x (u i j)) : ReadsT T E w es l (.slice A_ l.length c) := by
 refine ⟨A_, c, rfl, hc, h.wid, ?_⟩
 by_cases hl : l = []
 ·exact .inl hl
 ·obtain ⟨a_, off, h1, h2⟩ := h.some_ hl
  refine .inr ⟨a_, off, h1, h2, fun i r j x hi hj => ?_⟩
  obtain ⟨a2, off2, q1, q2, q3⟩ := h.cell i r j x hi hj
  rw [h1] at q1
  simp only [at_, Option.some.injEq, Addr.mk.injEq, and_true] at q1
  obtain ⟨rfl, rfl⟩ := q1
  exact ⟨_, q3, hg i r j x hi hj⟩
theorem groundRows_map : ∀ {l : List (List C)} {g : List (List G)}, groundRows l = some g → g.map (fun r => r.map C.g) = l
 | [], g, h => by cases h; rfl
 | x :: r, g, h => by
  simp only [groundRows] at h
  split at h
  ·rename_i x' l h1 h2
   cases h
   simp [grounds_map h1, groundRows_map h2]
  ·cases h
/-- A row of a live name. -/
theorem reads_blk (hs : Sat E m w) {b : Nat} {blk : Blk} {g : List (List G)} {p q : Nat} (hb : m[b]? = some blk) (hl : blk.live) (hg : g.map (fun r => r.map C.g) = (blk.rows.take q).drop p) {a_ base off c : Nat} (hρ : E.ρ b = some (a_, base)) (hoff : 0 < c → off = base + p * blk.es) (hq : q ≤ blk.rows.length) (hpq : p ≤ q) (hc : q - p ≤ c) :
  ReadsT (fun k => k = a_) E w blk.es g (.slice (some (at_ a_ off)) (q - p) c) := by
 have hlen : g.length = q - p := by
  have := congrArg List.length hg
  simp at this
  omega
 rcases hs.rep b blk hb hl with ⟨e, _⟩ | ⟨a', base', e, g1, g2, g3⟩
 ·rw [e] at hρ; cases hρ
 rw [e] at hρ
 cases hρ
 have hr : ∀ (i : Nat) (r : List G), g[i]? = some r → p + i < q ∧ blk.rows[p + i]? = some (r.map C.g) := fun i r hi => by
  have : ((blk.rows.take q).drop p)[i]? = some (r.map C.g) := by rw [← hg]; simp [hi]
  exact ext_get this
 refine ⟨_, c, by rw [hlen], by omega, fun i r hi => by have := (g3 _ _ (hr i r hi).2).1; simpa using this, .inr ⟨a_, off, rfl, rfl, fun i r j x hi hj => ?_⟩⟩
 obtain ⟨h1, h2⟩ := hr i r hi
 obtain ⟨u, q1, q2⟩ := (g3 _ _ h2).2 j (.g x) (by simp [hj])
 refine ⟨u, ?_, q2⟩
 rw [hoff (by omega), Nat.add_assoc, ← Nat.add_assoc (p * blk.es), ← Nat.add_mul]
 exact q1
/-- The blocks that a cell's elements may lie in. -/
def RT (E : Env) (m : Mem) : C → Nat → Prop
 | .g _, k => E.F k
 | .bor _ _, k => E.F k ∨ E.B k
 | .row b _ _, k => ∃ blk x, m[b]? = some blk ∧ blk.live ∧ E.ρ b = some (k, x)
 | .sl b _ _ _ _, k => ∃ blk x, m[b]? = some blk ∧ blk.live ∧ E.ρ b = some (k, x)
 | _, _ => False
theorem rowsOf0_readsT (hI : I = ints) (hs : Sat E m w) {es : Nat} {c : C} {l : List (List G)} {v : Value} (h : rowsOf0 I es c m = some l) (hc : c = .any ∨ CRep E m w c v) : ReadsT (RT E m c) E w es l v := by
 subst hI
 cases c with
 | g x =>
  cases x with
  | nil =>
   cases h
   rcases hc with hc | hc <;> cases hc
   exact ⟨none, 0, rfl, Nat.le_refl _, fun i r h => by simp at h, .inl rfl⟩
  | rows es' l' =>
   simp only [rowsOf0] at h
   split at h
   ·rename_i he
    cases h
    obtain rfl : es = es' := by simpa using he
    rcases hc with hc | hc
    ·cases hc
    cases hc with
    | rows u h1 h2 h3 => exact reads_row h1 h2 h3
   ·cases h
  | _ => cases h
 | bor es' l' =>
  simp only [rowsOf0] at h
  split at h
  ·rename_i he
   cases h
   obtain rfl : es = es' := by simpa using he
   rcases hc with hc | ⟨A_, c, u, rfl, h1, h2, h3⟩
   ·cases hc
   exact reads_row h1 h2 h3
  ·cases h
 | row b es' cap =>
  have key : ∃ blk, m[b]? = some blk ∧ blk.live ∧ es = es' ∧ l.map (fun r => r.map C.g) = blk.rows := by
   simp only [rowsOf0] at h
   split at h
   ·rename_i he hm
    cases h
    exact ⟨_, hm, trivial, by simpa using he, rfl⟩
   ·rename_i he hm
    exact ⟨_, hm, trivial, by simpa using he, groundRows_map h⟩
   ·cases h
  obtain ⟨blk, hm, hl, rfl, hg⟩ := key
  rcases hc with hc | ⟨h0, ho, hc⟩
  ·cases hc
  obtain ⟨rfl, k2, k3⟩ := hc blk hm hl
  rcases k3 with ⟨e1, rfl⟩ | ⟨a_, base, c, e1, rfl, e3, e4, e5⟩
  ·rcases hs.rep b blk hm hl with ⟨_, e3⟩ | ⟨a', base', e3, _⟩
   ·rw [e3] at hg
    obtain rfl : l = [] := by simpa using hg
    exact ⟨none, 0, rfl, Nat.le_refl _, fun i r h => by simp at h, .inl rfl⟩
   ·rw [e1] at e3; cases e3
  ·have := reads_blk (p := 0) (q := blk.rows.length) (off := base) (c := c) hs hm hl (by simpa using hg) e1 (fun _ => by simp) (Nat.le_refl _) (Nat.zero_le _) (by omega)
   refine ReadsT.mono (by simpa using this) (fun k hk => ?_)
   subst hk
   exact ⟨blk, base, hm, hl, e1⟩
 | sl b i es' n cap =>
  have key : ∃ blk, m[b]? = some blk ∧ blk.live ∧ es = es' ∧ l.map (fun r => r.map C.g) = (blk.rows.take (i.val + n.val)).drop i.val := by
   simp only [rowsOf0] at h
   split at h
   ·rename_i he hm
    cases h
    refine ⟨_, hm, trivial, by simpa using he, ?_⟩
    rw [nAdd_val rfl]
    simp [Blk.rows, ints, List.map_take, List.map_drop]
   ·rename_i he hm
    split at h
    ·exact ⟨_, hm, trivial, by simpa using he, groundRows_map h⟩
    ·cases h
   ·cases h
  obtain ⟨blk, hm, hl, rfl, hg⟩ := key
  rcases hc with hc | ⟨h0, ho, hc⟩
  ·cases hc
  obtain ⟨rfl, k2, k3, k4⟩ := hc blk hm hl
  rcases k4 with ⟨e1, rfl, e2⟩ | ⟨a_, base, c, off, e1, rfl, e3, e4, e5, e6⟩
  ·rw [e2] at hg
   have hl0 := congrArg List.length hg
   simp only [List.length_map, List.length_drop, List.length_take] at hl0
   obtain rfl : l = [] := List.eq_nil_of_length_eq_zero (by omega)
   exact ⟨none, 0, rfl, Nat.le_refl _, fun i r h => by simp at h, .inl rfl⟩
  ·have := reads_blk (p := i.val) (q := i.val + n.val) (off := off) (c := c) hs hm hl hg e1 e3 k2 (by omega) (by omega)
   rw [Nat.add_sub_cancel_left] at this
   refine this.mono (fun k hk => ?_)
   subst hk
   exact ⟨blk, base, hm, hl, e1⟩
 | _ => cases h
theorem ReadsT.sy {T : Nat → Prop} {es : Nat} {l : List (List G)} {v : Value} (h : ReadsT T E w es l v) : ReadsT T E w es (rowsSy l) v := by
 obtain ⟨A_, c, h1, h2, h3, h4⟩ := h
 have hl : (rowsSy l).length = l.length := by simp [rowsSy]
 have hg : ∀ (i : Nat) (r : List G), (rowsSy l)[i]? = some r → ∃ r0, l[i]? = some r0 ∧ r = r0.map G.sy := fun i r hi => by
  unfold rowsSy at hi
  rw [List.getElem?_map] at hi
  obtain ⟨r0, hr, rfl⟩ := Option.map_eq_some_iff.1 hi
  exact ⟨r0, hr, rfl⟩
 refine ⟨A_, c, by rw [hl]; exact h1, by rw [hl]; exact h2, fun i r hi => ?_, h4.imp (fun e => by rw [e]; rfl) ?_⟩
 ·obtain ⟨r0, q1, rfl⟩ := hg i r hi
  rw [List.length_map]
  exact h3 i r0 q1
 ·rintro ⟨a_, off, e, hT, h5⟩
  refine ⟨a_, off, e, hT, fun i r j x hi hj => ?_⟩
  obtain ⟨r0, q1, rfl⟩ := hg i r hi
  rw [List.getElem?_map] at hj
  obtain ⟨y, hy, rfl⟩ := Option.map_eq_some_iff.1 hj
  obtain ⟨u, q3, q4⟩ := h5 i r0 j y q1 hy
  exact ⟨u, q3, G_sy q4⟩
theorem rowsOf_readsT (hI : I = ints) (hs : Sat E m w) {es : Nat} {c : C} {l : List (List G)} {v : Value} (h : rowsOf I es c m = some l) (hc : c = .any ∨ CRep E m w c v) : ReadsT (RT E m c) E w es l v := by
 unfold rowsOf at h
 split at h
 ·rename_i h0 _
  cases h
  exact rowsOf0_readsT hI hs h0 hc
 ·rename_i h0 _
  split at h
  ·cases h
   exact (rowsOf0_readsT hI hs h0 hc).sy
  ·cases h
   exact rowsOf0_readsT hI hs h0 hc
 ·cases h
theorem rowsOf_some {es : Nat} {c : C} {l : List (List G)} (h : rowsOf I es c m = some l) : ∃ l0, rowsOf0 I es c m = some l0 := by
 unfold rowsOf at h
 split at h
 ·rename_i h0 _
  exact ⟨_, h0⟩
 ·rename_i h0 _
  exact ⟨_, h0⟩
 ·cases h
theorem rowsOf_reads (hI : I = ints) (hs : Sat E m w) {es : Nat} {c : C} {l : List (List G)} {v : Value} (h : rowsOf I es c m = some l) (hc : c = .any ∨ CRep E m w c v) : Reads E w es l v := (rowsOf_readsT hI hs h hc).mono fun _ _ => trivial
/-- The cells, one behind the other. -/
theorem flat_cells {es : Nat} {l : List (List G)} {a_ off : Nat} (hw : ∀ (i : Nat) (r : List G), l[i]? = some r → r.length = es) (h0 : 0 < es)
  (h : ∀ (i : Nat) (r : List G) (j : Nat) (x : G), l[i]? = some r → r[j]? = some x → ∃ u, w.cell? (at_ a_ (off + (i * es + j))) = some u ∧ GRep E.F w x u) :
  ∃ us : List Value, us.length = l.length * es ∧ (∀ (j : Nat) (u : Value), us[j]? = some u → w.cell? (at_ a_ (off + j)) = some u) ∧ (∀ u ∈ us, u.oneCell' = true) ∧
   ∀ (i : Nat) (r : List G) (j : Nat) (x : G), l[i]? = some r → r[j]? = some x → ∃ u, us[i * es + j]? = some u ∧ GRep E.F w x u := by
 have key : ∀ q, q < l.length * es → ∃ u, w.cell? (at_ a_ (off + q)) = some u ∧ u.oneCell' = true := fun q hq => by
  have hi : q / es < l.length := Nat.div_lt_of_lt_mul (by rw [Nat.mul_comm]; exact hq)
  have hj : q % es < es := Nat.mod_lt _ h0
  have hr : l[q / es]? = some l[q / es] := List.getElem?_eq_getElem hi
  have hrl := hw _ _ hr
  obtain ⟨u, h1, h2⟩ := h (q / es) _ (q % es) _ hr (List.getElem?_eq_getElem (by omega))
  rw [Nat.div_add_mod'] at h1
  exact ⟨u, h1, h2.one⟩
 refine ⟨(List.range (l.length * es)).map fun q => (w.cell? (at_ a_ (off + q))).getD undef, by simp, fun j u hj => ?_, fun u hu => ?_, fun i r j x hi hj => ?_⟩
 ·obtain ⟨hlt, hv⟩ := List.getElem?_eq_some_iff.1 hj
  simp at hlt hv
  obtain ⟨u', h1, _⟩ := key j hlt
  rw [h1] at hv
  simp at hv
  rw [h1, hv]
 ·obtain ⟨q, hq, rfl⟩ := List.mem_map.1 hu
  obtain ⟨u', h1, h2⟩ := key q (by simpa using hq)
  rw [h1]
  exact h2
 ·obtain ⟨u, h1, h2⟩ := h i r j x hi hj
  refine ⟨u, ?_, h2⟩
  have hil : i < l.length := (List.getElem?_eq_some_iff.1 hi).1
  have hjl : j < es := by rw [← hw i r hi]; exact (List.getElem?_eq_some_iff.1 hj).1
  have := Nat.mul_le_mul_right es (show i + 1 ≤ l.length from hil)
  rw [Nat.add_mul] at this
  rw [List.getElem?_map, List.getElem?_range (by omega)]
  simp [h1]
/-- A name is forgotten. -/
theorem kill_grow (hs : Sat E m w) (b : Nat) : Grow Wt E m w E (m.set b .dead) w ∧ Sat E (m.set b .dead) w := by
 have old : ∀ (i : Nat) (bi : Blk), (m.set b .dead)[i]? = some bi → bi.live → m[i]? = some bi := fun i bi hi li => by
  rcases get_set hi with ⟨_, rfl, _⟩ | ⟨_, h⟩
  ·exact li.elim
  ·exact h
 have step : Step E m w E (m.set b .dead) w :=
  {F := fun _ h => h, B := fun _ h => h, ρ := fun _ _ => rfl, len := by simp, shape := fun id blk' hid h1 h2 => ⟨blk', old _ _ h1 h2, h2, rfl, rfl⟩, frz := fun _ _ => rfl, stays := Stays.refl w }
 refine ⟨{ toStep := step, B' := fun _ h => h, os := rfl, tape := rfl, output := rfl, size := Nat.le_refl _, block := fun _ _ _ => rfl, newF := fun k hk => .inl hk, newρ := fun id a_ x blk1 hid h1 _ _ => ?_ }, ?_⟩
 ·rw [List.getElem?_eq_none (by simpa using hid)] at h1; cases h1
 ·refine ⟨fun id blk' h1 l1 => ?_, fun i j bi bj c x y hi hj li lj => hs.inj i j bi bj c x y (old _ _ hi li) (old _ _ hj lj) li lj, fun i bi c x hi li => hs.dis i bi c x (old _ _ hi li) li, hs.old, fun id ag l h => hs.maps id ag l (old id _ h trivial)⟩
  rcases hs.rep id blk' (old _ _ h1 l1) l1 with h | ⟨a_, base, e, g1, g2, g3⟩
  ·exact .inl h
  ·exact .inr ⟨a_, base, e, g1, g2, fun i row hi => ⟨(g3 i row hi).1, fun j x hj => let ⟨u, q1, q2⟩ := (g3 i row hi).2 j x hj; ⟨u, q1, q2.step step⟩⟩⟩
/-- A name is forgotten, and its block has a new one and is written. -/
theorem move_grow (hs : Sat E m w) {b a_ base off : Nat} {blk blk' : Blk} (hb : m[b]? = some blk) (hl : blk.live) (hρ : E.ρ b = some (a_, base)) (hW : Wt b) (hos : w'.os = w.os) (htp : w'.tape = w.tape) (hou : w'.output = w.output) (hsz : w'.heap.size = w.heap.size)
  (hbl : ∀ k, k ≠ a_ → w'.heap[k]? = w.heap[k]?) (hst : Stays w w') (hth : w'.there a_ off (blk'.rows.length * blk'.es))
  (hrep : ∀ (i : Nat) (row : List C), blk'.rows[i]? = some row → row.length = blk'.es ∧ ∀ (j : Nat) (x : C), row[j]? = some x → ∃ u, w'.cell? (at_ a_ (off + (i * blk'.es + j))) = some u ∧ ((∃ g, x = .g g ∧ GRep E.F w' g u) ∨ CRep E m w x u))
  (hnm : ∀ ag l, blk' ≠ .mp ag l := by intro _ _ h; cases h) :
  Grow Wt E m w (E.add m.length (some (a_, off))) (m.set b .dead ++ [blk']) w' ∧ Sat (E.add m.length (some (a_, off))) (m.set b .dead ++ [blk']) w' := by
 have hdis := hs.dis b blk a_ base hb hl hρ
 have hlt := blk_lt hs hb hl hρ
 have hbm : b < m.length := (List.getElem?_eq_some_iff.1 hb).1
 have hE : ∀ id, id < m.length → (E.add m.length (some (a_, off))).ρ id = E.ρ id := fun id h => if_neg (by omega)
 have hEn : (E.add m.length (some (a_, off))).ρ m.length = some (a_, off) := if_pos rfl
 have old : ∀ (i : Nat) (bi : Blk), (m.set b .dead ++ [blk'])[i]? = some bi → bi.live → (i < m.length ∧ i ≠ b ∧ m[i]? = some bi) ∨ (i = m.length ∧ bi = blk') := fun i bi hi li => by
  rcases get_append hi with ⟨h1, h2⟩ | ⟨h1, h2⟩
  ·rcases get_set h2 with ⟨_, rfl, _⟩ | ⟨h3, h4⟩
   ·exact li.elim
   ·exact .inl ⟨by simpa using h1, h3, h4⟩
  ·exact .inr ⟨by simpa using h1, h2⟩
 have hne : ∀ (i : Nat) (bi : Blk) (a' x : Nat), m[i]? = some bi → bi.live → i ≠ b → E.ρ i = some (a', x) → a' ≠ a_ := fun i bi a' x h1 h2 h3 h4 e => by
  subst e
  exact h3 (hs.inj i b bi blk a' x base h1 hb h2 hl h4 hρ)
 have step : Step E m w (E.add m.length (some (a_, off))) (m.set b .dead ++ [blk']) w' :=
  {F := fun _ h => h, B := fun _ h => h, ρ := hE, len := by simp
   shape := fun id blk1 hid h1 h2 => by
    rcases old id blk1 h1 h2 with ⟨_, _, h3⟩ | ⟨h3, _⟩
    ·exact ⟨blk1, h3, h2, rfl, rfl⟩
    ·omega
   frz := fun k hk => hbl k (fun e => by subst e; exact hk.elim hdis.1 hdis.2)
   stays := hst }
 refine ⟨{ toStep := step, B' := fun _ h => h, os := hos, tape := htp, output := hou, size := Nat.le_of_eq hsz.symm, block := fun k hk hn => hbl k (fun e => hn ⟨b, blk, base, hb, hl, hW, e ▸ hρ⟩), newF := fun k hk => .inl hk, newρ := fun id a' x blk1 hid h1 h2 h3 => ?_ }, ?_⟩
 ·rcases old id blk1 h1 h2 with ⟨h4, _, _⟩ | ⟨h4, _⟩
  ·omega
  ·subst h4
   rw [hEn] at h3
   cases h3
   exact .inr ⟨b, blk, base, hb, hl, hW, hρ⟩
 ·refine ⟨fun id blk1 h1 l1 => ?_, fun i j bi bj c x y hi hj li lj ei ej => ?_, fun i bi c x hi li ei => ?_, fun k hk => by rw [hsz]; exact hs.old k hk, fun id ag l h1 => ?_⟩
  ·rcases old id blk1 h1 l1 with ⟨h2, h3, h4⟩ | ⟨h2, h3⟩
   ·rw [hE id h2]
    rcases hs.rep id blk1 h4 l1 with h | ⟨a', base', e, g1, g2, g3⟩
    ·exact .inl h
    ·rw [e]
     exact BRep.step_rep step (hbl a' (hne id blk1 a' base' h4 l1 h3 e)) (Nat.le_of_eq hsz.symm) (fun _ => .inr ⟨a', base', rfl, g1, g2, g3⟩) l1
   ·subst h2 h3
    rw [hEn]
    refine .inr ⟨a_, off, rfl, hth, by omega, fun i row hi => ⟨(hrep i row hi).1, fun j x hj => ?_⟩⟩
    obtain ⟨u, q1, ⟨g, rfl, q2⟩ | q2⟩ := (hrep i row hi).2 j x hj
    ·exact ⟨u, q1, q2⟩
    ·exact ⟨u, q1, q2.step step⟩
  ·rcases old i bi hi li with ⟨h2, h3, h4⟩ | ⟨h2, h3⟩ <;> rcases old j bj hj lj with ⟨h5, h6, h7⟩ | ⟨h5, h6⟩
   ·rw [hE i h2] at ei
    rw [hE j h5] at ej
    exact hs.inj i j bi bj c x y h4 h7 li lj ei ej
   ·subst h5
    rw [hE i h2] at ei
    rw [hEn] at ej
    cases ej
    exact absurd rfl (hne i bi _ x h4 li h3 ei)
   ·subst h2
    rw [hE j h5] at ej
    rw [hEn] at ei
    cases ei
    exact absurd rfl (hne j bj _ y h7 lj h6 ej)
   ·omega
  ·rcases old i bi hi li with ⟨h2, h3, h4⟩ | ⟨h2, h3⟩
   ·rw [hE i h2] at ei
    exact hs.dis i bi c x h4 li ei
   ·subst h2
    rw [hEn] at ei
    cases ei
    exact hdis
  ·rcases old id _ h1 trivial with ⟨h2, h3, h4⟩ | ⟨_, h3⟩
   ·obtain ⟨a', e, hlt, hm⟩ := hs.maps id ag l h4
    exact ⟨a', by rw [hE id h2]; exact e, by omega, hm.step (fun _ h => h) (fun k hk => hbl k (fun e => by subst e; exact hdis.1 hk)) (hbl a' (hne id _ a' 0 h4 trivial h3 e))⟩
   ·exact (hnm ag l h3.symm).elim
theorem run_append_zero {t e : TypeId} {i : TypeInfo} (ht : P.underlying t = some (.slice e)) (hi : P.info? e = some i) (A_ A2 : Option Addr) (n c c2 : Nat) (ty : TypeId) (hc : n ≤ c) (w : World) :
  (Builtin.append_ #[t, t] ty #[.slice A_ n c, .slice A2 0 c2]).run P w = .ok (.slice A_ n c) w := by
 cases A_ <;> cases A2 <;> simp [Builtin.append_, run_underlying ht, sizeOf, typeInfo, hi, Builtin.lenOf, hc, Builtin.firstCells, loadCells, loadCellsFrom, storeCells]
theorem flat_rows {es : Nat} {l : List (List G)} {us : List Value} (hw : ∀ (i : Nat) (r : List G), l[i]? = some r → r.length = es) (h : ∀ (i : Nat) (r : List G) (j : Nat) (x : G), l[i]? = some r → r[j]? = some x → ∃ u, us[i * es + j]? = some u ∧ GRep E.F w x u)
  {F : Nat → World → Value → Prop} {i : Nat} {row : List C} (hi : (Blk.sym es l).rows[i]? = some row) : row.length = es ∧ ∀ (j : Nat) (x : C), row[j]? = some x → ∃ u, us[i * es + j]? = some u ∧ CRep E m w x u := by
 simp only [Blk.rows, List.getElem?_map] at hi
 cases hq : l[i]? with
 | none => simp [hq] at hi
 | some r =>
  simp [hq] at hi
  subst hi
  refine ⟨by simpa using hw i r hq, fun j x hj => ?_⟩
  rw [List.getElem?_map] at hj
  cases hr : r[j]? with
  | none => simp [hr] at hj
  | some g =>
   simp [hr] at hj
   subst hj
   exact h i r j g hq hr
/-- What an append that grows leaves. -/
theorem owns_new (hs : Sat E m w) {es : Nat} {l : List (List G)} {us : List Value} {e : TypeId} {v : Value} (hl : us.length = l.length * es) (hne : l ≠ []) (h0 : 0 < es) (hw : ∀ (i : Nat) (r : List G), l[i]? = some r → r.length = es)
  (hc : ∀ (i : Nat) (r : List G) (j : Nat) (x : G), l[i]? = some r → r[j]? = some x → ∃ u, us[i * es + j]? = some u ∧ GRep E.F w x u) (ho : w'.ownsRow w.heap.size e es v l.length us) (hg : w.grownBy w' none) :
  ∃ E', Grow Wt E m w E' (m ++ [.sym es l]) w' ∧ Sat E' (m ++ [.sym es l]) w' ∧ CRep E' (m ++ [.sym es l]) w' (.row m.length es none) v := by
 obtain ⟨h1, ⟨_, h2⟩ | ⟨g, cap, cur, rfl, h2, h3, h4, h5, h6, h7⟩⟩ := ho
 ·exact absurd (List.eq_nil_of_length_eq_zero h2) hne
 have hbl : ∀ k, k < w.heap.size → w'.heap[k]? = w.heap[k]? := fun k hk => hg.block k hk (by simp)
 have hcap := Nat.mul_le_mul_right es h4
 have hcur : ∀ (q : Nat) (u : Value), us[q]? = some u → cur[q]? = some u := fun q u hq => by
  rw [← h7, List.getElem?_take] at hq
  split at hq
  ·simpa using hq
  ·cases hq
 have hgr := new_grow (Wt := Wt) hs (blk := .sym es l) trivial h2 h3 hbl hg.size hg.os hg.tape hg.output (by simp [Blk.rows, Blk.es]; omega) (fun i row hi => by
  obtain ⟨q1, q2⟩ := flat_rows (m := m) (F := fun _ _ _ => True) hw hc hi
  exact ⟨q1, fun j x hj => let ⟨u, q3, q4⟩ := q2 j x hj; ⟨u, hcur _ u q3, q4⟩⟩)
 refine ⟨_, hgr.1, hgr.2, row_new (if_pos rfl) rfl (by simp [Blk.rows]) (fun c' hc' => by cases hc') h4 (fun c' hc' => by cases hc') (fun j hj => ?_)⟩
 have hcl : w'.cell? ⟨g, 0 + j, none⟩ = cur[0 + j]? := by simp only [World.cell?, h3, Option.isSome_none, Bool.false_eq_true, if_false]
 have hj' : j < cap * es := hj
 rw [hcl]
 refine ⟨by simp; omega, by simp only [World.frozen?, h3]; simp⟩
/-- An append to nil. -/
theorem app_nil (hs : Sat E m w) {t e : TypeId} {i : TypeInfo} {zv : Value} {src : List (List G)} {v : Value} (ty : TypeId) (ht : P.underlying t = some (.slice e)) (hi : P.info? e = some i) (hz : i.zero = some zv) (hzs : zv.cells.size = i.size) (h0 : 0 < i.size)
  (hR : Reads E w i.size src v) (hb : src.length * i.bytes ≤ 140737488355328) (hn : src.length ≤ 140737488355328) :
  ∃ v' w' E', (Builtin.append_ #[t, t] ty #[.slice none 0 0, v]).run P w = .ok v' w' ∧ Grow Wt E m w E' (m ++ [.sym i.size src]) w' ∧ Sat E' (m ++ [.sym i.size src]) w' ∧ CRep E' (m ++ [.sym i.size src]) w' (.row m.length i.size none) v' := by
 obtain ⟨A_, c, rfl, hc, hw, hR⟩ := hR
 rcases hR with rfl | ⟨a_, off, rfl, -, hcell⟩
 ·have hg := add_grow (Wt := Wt) (w' := w) hs (blk := .sym i.size []) (r := none) (Nat.le_refl _) rfl rfl rfl (Stays.refl w) (fun _ _ => rfl) (fun _ _ h => by cases h) (fun _ => .inl ⟨rfl, rfl⟩)
  refine ⟨_, w, _, run_append_zero ht hi none A_ 0 0 c ty (Nat.le_refl _) w, hg.1, hg.2, by simp, rfl, fun blk hb' hl => ?_⟩
  simp at hb'
  subst hb'
  exact ⟨rfl, fun c' hc' => (by cases hc'), .inl ⟨if_pos rfl, rfl⟩⟩
 ·by_cases hne : src = []
  ·subst hne
   have hg := add_grow (Wt := Wt) (w' := w) hs (blk := .sym i.size []) (r := none) (Nat.le_refl _) rfl rfl rfl (Stays.refl w) (fun _ _ => rfl) (fun _ _ h => by cases h) (fun _ => .inl ⟨rfl, rfl⟩)
   refine ⟨_, w, _, run_append_zero ht hi none _ 0 0 c ty (Nat.le_refl _) w, hg.1, hg.2, by simp, rfl, fun blk hb' hl => ?_⟩
   simp at hb'
   subst hb'
   exact ⟨rfl, fun c' hc' => (by cases hc'), .inl ⟨if_pos rfl, rfl⟩⟩
  ·obtain ⟨us, u1, u2, u3, u4⟩ := flat_cells hw h0 hcell
   obtain ⟨v', w', r1, r2, r3, _⟩ := run_append_own (P := P) w w.heap.size t ty e i zv i.size i.bytes ht hi hz rfl rfl hzs h0 (.slice none 0 0) 0 [] (World.ownsRow_nil w _ e i.size) (at_ a_ off) src.length c us u1 (fun j u hj => by rw [at_add]; exact u2 j u hj) u3 (by unfold maxLen; omega) (by simpa using hb) (Nat.le_refl _)
   obtain ⟨E', g1, g2, g3⟩ := owns_new (Wt := Wt) hs u1 hne h0 hw u4 (by simpa using r2) r3
   exact ⟨v', w', E', r1, g1, g2, g3⟩
theorem app_reads {es : Nat} {old src : List (List G)} (hw1 : ∀ (i : Nat) (r : List G), old[i]? = some r → r.length = es) (hw2 : ∀ (i : Nat) (r : List G), src[i]? = some r → r.length = es) : ∀ (i : Nat) (r : List G), (old ++ src)[i]? = some r → r.length = es := fun i r hi => by
 rw [List.getElem?_append] at hi
 split at hi
 ·exact hw1 _ _ hi
 ·exact hw2 _ _ hi
theorem app_cells {es : Nat} {old src : List (List G)} {us vs : List Value} (hu : us.length = old.length * es) (h1 : ∀ (i : Nat) (r : List G) (j : Nat) (x : G), old[i]? = some r → r[j]? = some x → ∃ u, us[i * es + j]? = some u ∧ GRep E.F w x u)
  (h2 : ∀ (i : Nat) (r : List G) (j : Nat) (x : G), src[i]? = some r → r[j]? = some x → ∃ u, vs[i * es + j]? = some u ∧ GRep E.F w x u) (hw : ∀ (i : Nat) (r : List G), old[i]? = some r → r.length = es) :
  ∀ (i : Nat) (r : List G) (j : Nat) (x : G), (old ++ src)[i]? = some r → r[j]? = some x → ∃ u, (us ++ vs)[i * es + j]? = some u ∧ GRep E.F w x u := fun i r j x hi hj => by
 rw [List.getElem?_append] at hi
 split at hi
 ·rename_i hlt
  obtain ⟨u, q1, q2⟩ := h1 i r j x hi hj
  have : i * es + j < us.length := (List.getElem?_eq_some_iff.1 q1).1
  exact ⟨u, by rw [List.getElem?_append_left this]; exact q1, q2⟩
 ·rename_i hge
  obtain ⟨u, q1, q2⟩ := h2 _ r j x hi hj
  refine ⟨u, ?_, q2⟩
  have e : i * es = old.length * es + (i - old.length) * es := by rw [← Nat.add_mul]; congr 1; omega
  rw [List.getElem?_append_right (by rw [hu, e]; omega), hu, e]
  rw [show old.length * es + (i - old.length) * es + j - old.length * es = (i - old.length) * es + j by omega]
  exact q1
/-- An append to a row of a live name. -/
theorem app_row (hs : Sat E m w) {t e : TypeId} {i : TypeInfo} {zv : Value} {old src : List (List G)} {v : Value} (ty : TypeId) (ht : P.underlying t = some (.slice e)) (hi : P.info? e = some i) (hz : i.zero = some zv) (hzs : zv.cells.size = i.size) (h0 : 0 < i.size)
  {b a_ base off c : Nat} {blk : Blk} (hb : m[b]? = some blk) (hl : blk.live) (hρ : E.ρ b = some (a_, base)) (hW : Wt b) (hD : Reads E w i.size old (.slice (some (at_ a_ off)) old.length c)) (hth : w.there a_ off (c * i.size))
  (hR : Reads E w i.size src v) (hbb : (old ++ src).length * i.bytes ≤ 140737488355328) (hn : (old ++ src).length ≤ 140737488355328) :
  ∃ v' w' E', (Builtin.append_ #[t, t] ty #[.slice (some (at_ a_ off)) old.length c, v]).run P w = .ok v' w' ∧ Grow Wt E m w E' (m.set b .dead ++ [.sym i.size (old ++ src)]) w' ∧ Sat E' (m.set b .dead ++ [.sym i.size (old ++ src)]) w' ∧ CRep E' (m.set b .dead ++ [.sym i.size (old ++ src)]) w' (.row m.length i.size none) v' := by
 have hlen : (m.set b .dead).length = m.length := by simp
 obtain ⟨A1, c1, e1, hc1, hw1, hD⟩ := hD
 simp only [Value.slice.injEq, true_and] at e1
 obtain ⟨rfl, rfl⟩ := e1
 obtain ⟨A2, c2, rfl, hc2, hw2, hR⟩ := hR
 have hD' : ∀ (i_ : Nat) (r : List G) (j : Nat) (x : G), old[i_]? = some r → r[j]? = some x → ∃ u, w.cell? (at_ a_ (off + (i_ * i.size + j))) = some u ∧ GRep E.F w x u := by
  rcases hD with rfl | ⟨a', off', e, -, h⟩
  ·intro i_ r j x h; simp at h
  ·simp only [at_, Option.some.injEq, Addr.mk.injEq, and_true] at e
   obtain ⟨rfl, rfl⟩ := e
   exact h
 obtain ⟨us, u1, u2, u3, u4⟩ := flat_cells hw1 h0 hD'
 obtain ⟨k0, ks0⟩ := kill_grow (Wt := Wt) hs b
 -- the same block, nothing written or the new cells behind the old ones
 have inplace : ∀ (vs : List Value) (w' : World), vs.length = src.length * i.size → (∀ (i_ : Nat) (r : List G) (j : Nat) (x : G), src[i_]? = some r → r[j]? = some x → ∃ u, vs[i_ * i.size + j]? = some u ∧ GRep E.F w x u) → (old ++ src).length ≤ c → w' = w.setCells a_ (off + old.length * i.size) vs →
   ∃ E', Grow Wt E m w E' (m.set b .dead ++ [.sym i.size (old ++ src)]) w' ∧ Sat E' (m.set b .dead ++ [.sym i.size (old ++ src)]) w' ∧ CRep E' (m.set b .dead ++ [.sym i.size (old ++ src)]) w' (.row m.length i.size none) (.slice (some (at_ a_ off)) (old ++ src).length c) := by
  intro vs w' hv hvs hc hw'
  obtain ⟨k1, k2, k3, k4, k5⟩ := setCells_keep w a_ vs (off + old.length * i.size) w
  rw [← hw'] at k1 k2 k3 k4 k5
  have hst : Stays w w' := by rw [hw']; exact stays_setCells _ _ _ _
  have hcm := Nat.mul_le_mul_right i.size hc
  have hlm : (old ++ src).length * i.size = old.length * i.size + src.length * i.size := by rw [List.length_append, Nat.add_mul]
  have hth' : w'.there a_ off (c * i.size) := there_stays hst hth
  have hsome : ∀ j, j < vs.length → (w.cell? ⟨a_, off + old.length * i.size + j, none⟩).isSome = true := fun j hj => by
   rw [Nat.add_assoc]
   exact (hth _ (by omega)).1
  have hdis := hs.dis b blk a_ base hb hl hρ
  have hfr : ∀ k, E.F k → w'.heap[k]? = w.heap[k]? := fun k hk => k5 k (fun e => by subst e; exact hdis.1 hk)
  have hg := move_grow (Wt := Wt) (off := off) hs hb hl hρ hW k1 k2 k3 k4 k5 hst (blk' := .sym i.size (old ++ src)) (fun j hj => hth' j (by
   have : j < (old ++ src).length * i.size := by simpa [Blk.rows, Blk.es] using hj
   omega)) (fun q row hq => by
   obtain ⟨q1, q2⟩ := flat_rows (E := E) (m := m) (w := w) (F := fun _ _ _ => True) (us := us ++ vs) (app_reads hw1 hw2) (app_cells u1 u4 hvs hw1) hq
   refine ⟨q1, fun j x hj => ?_⟩
   obtain ⟨u, q3, q4⟩ := q2 j x hj
   have hx : ∃ g, x = .g g := by
    simp only [Blk.rows, List.getElem?_map] at hq
    cases hr : (old ++ src)[q]? with
    | none => simp [hr] at hq
    | some r =>
     simp [hr] at hq
     subst hq
     rw [List.getElem?_map] at hj
     cases hr2 : r[j]? with
     | none => simp [hr2] at hj
     | some g => simp [hr2] at hj; exact ⟨g, hj.symm⟩
   obtain ⟨g, rfl⟩ := hx
   refine ⟨u, ?_, .inl ⟨g, rfl, GRep.step (fun _ h => h) hfr q4⟩⟩
   rw [hw']
   show (w.setCells a_ (off + old.length * i.size) vs).cell? (at_ a_ (off + (q * i.size + j))) = some u
   rw [List.getElem?_append] at q3
   split at q3
   ·rename_i hlt
    rw [World.cell?_setCells_out a_ _ _ w _ (fun _ _ => .inl (by simp only [at_]; omega))]
    exact u2 _ _ q3
   ·rename_i hge
    obtain ⟨hlt, hv'⟩ := List.getElem?_eq_some_iff.1 q3
    have := World.cell?_setCells_in a_ vs (off + old.length * i.size) w hsome _ hlt
    rw [hv'] at this
    rw [← this]
    unfold at_
    congr 2
    omega)
  refine ⟨_, hg.1, hg.2, by simp, rfl, fun blk' hb' hl' => ?_⟩
  rw [List.getElem?_append_right (by simp), hlen] at hb'
  simp at hb'
  subst hb'
  exact ⟨rfl, fun c' hc' => (by cases hc'), .inr ⟨a_, off, c, if_pos rfl, by simp [Blk.rows], by simpa [Blk.rows] using hc, fun c' hc' => (by cases hc'), hth'⟩⟩
 have hempty : src = [] → ∃ v' w' E', (Builtin.append_ #[t, t] ty #[.slice (some (at_ a_ off)) old.length c, .slice A2 src.length c2]).run P w = .ok v' w' ∧ Grow Wt E m w E' (m.set b .dead ++ [.sym i.size (old ++ src)]) w' ∧ Sat E' (m.set b .dead ++ [.sym i.size (old ++ src)]) w' ∧ CRep E' (m.set b .dead ++ [.sym i.size (old ++ src)]) w' (.row m.length i.size none) v' := by
  rintro rfl
  obtain ⟨E', g1, g2, g3⟩ := inplace [] w (by simp) (fun i_ r j x h => by simp at h) (by simpa using hc1) rfl
  exact ⟨_, w, E', run_append_zero ht hi _ A2 old.length c c2 ty hc1 w, g1, g2, by simpa using g3⟩
 rcases hR with h | ⟨a2, off2, rfl, -, hcell⟩
 ·exact hempty h
 by_cases hne : src = []
 ·exact hempty hne
 obtain ⟨vs, v1, v2, v3, v4⟩ := flat_cells hw2 h0 hcell
 by_cases hroom : (old ++ src).length ≤ c
 ·obtain ⟨E', g1, g2, g3⟩ := inplace vs _ v1 v4 hroom rfl
  have hcm := Nat.mul_le_mul_right i.size hroom
  have hlm : (old ++ src).length * i.size = old.length * i.size + src.length * i.size := by rw [List.length_append, Nat.add_mul]
  have hr := run_append_room_cells (P := P) w t ty e i ht hi a_ off old.length c (at_ a2 off2) src.length c2 vs v1 (fun j u hj => by rw [at_add]; exact v2 j u hj) v3 (by simpa using hroom) (fun j hj => by
   rw [Nat.add_assoc]; exact (hth _ (by omega)).1) (fun j hj => by
   rw [Nat.add_assoc]; exact (hth _ (by omega)).2)
  rw [List.length_append] at g3
  exact ⟨_, _, E', hr, g1, g2, g3⟩
 ·obtain ⟨v', w', r1, r2, r3⟩ := run_append_arg_grows (P := P) w t ty e i zv i.size i.bytes ht hi hz rfl rfl hzs h0 (at_ a_ off) old.length c us u1 (fun j u hj => by rw [at_add]; exact u2 j u hj) (at_ a2 off2) src.length c2 vs v1 (fun j u hj => by rw [at_add]; exact v2 j u hj) (by simp at hroom; omega) (by unfold maxLen; simp at hn; omega) (by simpa using hbb)
  obtain ⟨E', g1, g2, g3⟩ := owns_new (Wt := Wt) (l := old ++ src) ks0 (by rw [List.length_append, u1, v1, List.length_append, Nat.add_mul]) (by simp [hne]) h0 (app_reads hw1 hw2) (app_cells u1 u4 v4 hw1) (by simpa using r2) r3
  rw [hlen] at g3
  exact ⟨v', w', E', r1, k0.trans g1 (fun _ _ h => h), g2, g3⟩
/-- What an append that grows leaves, cell by cell. -/
theorem owns_blk (hs : Sat E m w) {blk : Blk} (hlv : blk.live) (hnm : ∀ ag l, blk ≠ .mp ag l) {es : Nat} (hes : blk.es = es) {us : List Value} {e : TypeId} {v : Value} (hl : us.length = blk.rows.length * es) (hne : blk.rows ≠ []) (h0 : 0 < es)
  (hrows : ∀ (i : Nat) (row : List C), blk.rows[i]? = some row → row.length = es ∧ ∀ (j : Nat) (x : C), row[j]? = some x → ∃ u, us[i * es + j]? = some u ∧ CRep E m w x u) (ho : w'.ownsRow w.heap.size e es v blk.rows.length us) (hg : w.grownBy w' none) :
  ∃ E', Grow Wt E m w E' (m ++ [blk]) w' ∧ Sat E' (m ++ [blk]) w' ∧ CRep E' (m ++ [blk]) w' (.row m.length es none) v := by
 obtain ⟨h1, ⟨_, h2⟩ | ⟨g, cap, cur, rfl, h2, h3, h4, h5, h6, h7⟩⟩ := ho
 ·exact absurd (List.eq_nil_of_length_eq_zero h2) hne
 have hbl : ∀ k, k < w.heap.size → w'.heap[k]? = w.heap[k]? := fun k hk => hg.block k hk (by simp)
 have hcap := Nat.mul_le_mul_right es h4
 have hcur : ∀ (q : Nat) (u : Value), us[q]? = some u → cur[q]? = some u := fun q u hq => by
  rw [← h7, List.getElem?_take] at hq
  split at hq
  ·simpa using hq
  ·cases hq
 have hgr := new_grow (Wt := Wt) hs (blk := blk) hlv h2 h3 hbl hg.size hg.os hg.tape hg.output (by rw [hes]; omega) (fun i row hi => by
  obtain ⟨q1, q2⟩ := hrows i row hi
  rw [hes]
  exact ⟨q1, fun j x hj => let ⟨u, q3, q4⟩ := q2 j x hj; ⟨u, hcur _ u q3, q4⟩⟩) (hnm := hnm)
 refine ⟨_, hgr.1, hgr.2, row_new (if_pos rfl) hes rfl (fun c' hc' => by cases hc') h4 (fun c' hc' => by cases hc') (fun j hj => ?_)⟩
 have hcl : w'.cell? ⟨g, 0 + j, none⟩ = cur[0 + j]? := by simp only [World.cell?, h3, Option.isSome_none, Bool.false_eq_true, if_false]
 have hj' : j < cap * es := hj
 rw [hcl]
 refine ⟨by simp; omega, by simp only [World.frozen?, h3]; simp⟩
/-- An append of rows that are known cell by cell to nil. -/
theorem app_nil_lit (hs : Sat E m w) {t e : TypeId} {i : TypeInfo} {zv : Value} {rows : List (List C)} {b : Nat} {cap : Option NN} {v : Value} (ty : TypeId) (ht : P.underlying t = some (.slice e)) (hi : P.info? e = some i) (hz : i.zero = some zv) (hzs : zv.cells.size = i.size) (h0 : 0 < i.size)
  (hm : m[b]? = some (.lit i.size rows)) (hv : CRep E m w (.row b i.size cap) v) (hb : rows.length * i.bytes ≤ 140737488355328) (hn : rows.length ≤ 140737488355328) :
  ∃ v' w' E', (Builtin.append_ #[t, t] ty #[.slice none 0 0, v]).run P w = .ok v' w' ∧ Grow Wt E m w E' (m ++ [.lit i.size rows]) w' ∧ Sat E' (m ++ [.lit i.size rows]) w' ∧ CRep E' (m ++ [.lit i.size rows]) w' (.row m.length i.size none) v' := by
 obtain ⟨_, _, hv⟩ := hv
 obtain ⟨_, _, hv⟩ := hv _ hm trivial
 have none_ : rows = [] → (∃ A_ c, v = .slice A_ 0 c) → ∃ v' w' E', (Builtin.append_ #[t, t] ty #[.slice none 0 0, v]).run P w = .ok v' w' ∧ Grow Wt E m w E' (m ++ [.lit i.size rows]) w' ∧ Sat E' (m ++ [.lit i.size rows]) w' ∧ CRep E' (m ++ [.lit i.size rows]) w' (.row m.length i.size none) v' := by
  rintro rfl ⟨A_, c, rfl⟩
  have hg := add_grow (Wt := Wt) (w' := w) hs (blk := .lit i.size []) (r := none) (Nat.le_refl _) rfl rfl rfl (Stays.refl w) (fun _ _ => rfl) (fun _ _ h => by cases h) (fun _ => .inl ⟨rfl, rfl⟩)
  refine ⟨_, w, _, run_append_zero ht hi none A_ 0 0 c ty (Nat.le_refl _) w, hg.1, hg.2, by simp, rfl, fun blk hb' hl => ?_⟩
  simp at hb'
  subst hb'
  exact ⟨rfl, fun c' hc' => (by cases hc'), .inl ⟨if_pos rfl, rfl⟩⟩
 have hrep := hs.rep b _ hm trivial
 rcases hv with ⟨e1, e2⟩ | ⟨a_, base, c, e1, e2, e3, _, _⟩
 ·refine none_ ?_ ⟨none, 0, e2⟩
  rcases hrep with ⟨_, h⟩ | ⟨a', base', h, _⟩
  ·exact h
  ·rw [e1] at h; cases h
 ·by_cases hne : rows = []
  ·exact none_ hne ⟨some (at_ a_ base), c, by rw [e2]; subst hne; rfl⟩
  rcases hrep with ⟨h, _⟩ | ⟨a', base', h, g1, g2, g3⟩
  ·rw [e1] at h; cases h
  rw [e1] at h
  cases h
  have g3 : ∀ (q : Nat) (row : List C), rows[q]? = some row → row.length = i.size ∧ ∀ (j : Nat) (x : C), row[j]? = some x → ∃ u, w.cell? (at_ a_ (base + (q * i.size + j))) = some u ∧ CRep E m w x u := g3
  have key : ∀ q, q < rows.length * i.size → ∃ u, w.cell? (at_ a_ (base + q)) = some u ∧ u.oneCell' = true := fun q hq => by
   have hi' : q / i.size < rows.length := Nat.div_lt_of_lt_mul (by rw [Nat.mul_comm]; exact hq)
   have hj : q % i.size < i.size := Nat.mod_lt _ h0
   have hr : rows[q / i.size]? = some rows[q / i.size] := List.getElem?_eq_getElem hi'
   obtain ⟨hrl, hc⟩ := g3 _ _ hr
   obtain ⟨u, q1, q2⟩ := hc (q % i.size) _ (List.getElem?_eq_getElem (by omega))
   rw [Nat.div_add_mod'] at q1
   exact ⟨u, q1, q2.one⟩
  obtain ⟨us, hus⟩ : ∃ us : List Value, us = (List.range (rows.length * i.size)).map fun q => (w.cell? (at_ a_ (base + q))).getD undef := ⟨_, rfl⟩
  have hul : us.length = rows.length * i.size := by rw [hus]; simp
  have hug : ∀ q, q < rows.length * i.size → us[q]? = w.cell? (at_ a_ (base + q)) := fun q hq => by
   obtain ⟨u, q1, _⟩ := key q hq
   rw [hus, List.getElem?_map, List.getElem?_range hq, q1]
   simp [q1]
  have u2 : ∀ (j : Nat) (u : Value), us[j]? = some u → w.cell? (at_ a_ (base + j)) = some u := fun j u hj => by
   have hlt := (List.getElem?_eq_some_iff.1 hj).1
   rw [← hug j (by omega)]
   exact hj
  have u3 : ∀ u ∈ us, u.oneCell' = true := fun u hu => by
   obtain ⟨q, hq⟩ := List.mem_iff_getElem?.1 hu
   have hlt := (List.getElem?_eq_some_iff.1 hq).1
   obtain ⟨u', q1, q2⟩ := key q (by omega)
   rw [hug q (by omega), q1] at hq
   cases hq
   exact q2
  obtain ⟨v', w', r1, r2, r3, _⟩ := run_append_own (P := P) w w.heap.size t ty e i zv i.size i.bytes ht hi hz rfl rfl hzs h0 (.slice none 0 0) 0 [] (World.ownsRow_nil w _ e i.size) (at_ a_ base) rows.length c us hul (fun j u hj => by rw [at_add]; exact u2 j u hj) u3 (by unfold maxLen; omega) (by simpa using hb) (Nat.le_refl _)
  obtain ⟨E', k1, k2, k3⟩ := owns_blk (Wt := Wt) (blk := .lit i.size rows) hs trivial (fun _ _ h => by cases h) rfl hul hne h0 (fun q row hq => by
   have hq : rows[q]? = some row := hq
   obtain ⟨q1, q2⟩ := g3 q row hq
   refine ⟨q1, fun j x hj => ?_⟩
   obtain ⟨u, q3, q4⟩ := q2 j x hj
   have hql : q < rows.length := (List.getElem?_eq_some_iff.1 hq).1
   have hjl : j < i.size := by rw [← q1]; exact (List.getElem?_eq_some_iff.1 hj).1
   have hmul := Nat.mul_le_mul_right i.size (show q + 1 ≤ rows.length from hql)
   rw [Nat.add_mul] at hmul
   have hfin : us[q * i.size + j]? = some u := by rw [hug _ (show q * i.size + j < rows.length * i.size from by omega)]; exact q3
   exact ⟨u, hfin, q4⟩) (by simpa [Blk.rows, Blk.es] using r2) r3
  exact ⟨v', w', E', by rw [e2]; exact r1, k1, k2, k3⟩
/-- The cells of rows that are known cell by cell. -/
theorem lit_cells (hs : Sat E m w) {es : Nat} {rows : List (List C)} {b : Nat} {cap : Option NN} {v : Value} (h0 : 0 < es) (hm : m[b]? = some (.lit es rows)) (hne : rows ≠ []) (hv : CRep E m w (.row b es cap) v) :
  ∃ (a_ base c : Nat) (us : List Value), v = .slice (some (at_ a_ base)) rows.length c ∧ capIs cap c ∧ us.length = rows.length * es ∧ (∀ (j : Nat) (u : Value), us[j]? = some u → w.cell? (at_ a_ (base + j)) = some u) ∧
   (∀ (q : Nat) (row : List C), rows[q]? = some row → row.length = es ∧ ∀ (j : Nat) (x : C), row[j]? = some x → ∃ u, us[q * es + j]? = some u ∧ CRep E m w x u) := by
 obtain ⟨_, _, hv⟩ := hv
 obtain ⟨_, _, hv⟩ := hv _ hm trivial
 have hrep := hs.rep b _ hm trivial
 rcases hv with ⟨e1, e2⟩ | ⟨a_, base, c, e1, e2, e3, e4, _⟩
 ·rcases hrep with ⟨_, h⟩ | ⟨a', base', h, _⟩
  ·exact absurd h hne
  ·rw [e1] at h; cases h
 ·rcases hrep with ⟨h, _⟩ | ⟨a', base', h, g1, g2, g3⟩
  ·rw [e1] at h; cases h
  rw [e1] at h
  cases h
  have g3 : ∀ (q : Nat) (row : List C), rows[q]? = some row → row.length = es ∧ ∀ (j : Nat) (x : C), row[j]? = some x → ∃ u, w.cell? (at_ a_ (base + (q * es + j))) = some u ∧ CRep E m w x u := g3
  have key : ∀ q, q < rows.length * es → ∃ u, w.cell? (at_ a_ (base + q)) = some u := fun q hq => by
   have hi' : q / es < rows.length := Nat.div_lt_of_lt_mul (by rw [Nat.mul_comm]; exact hq)
   have hj : q % es < es := Nat.mod_lt _ h0
   have hr : rows[q / es]? = some rows[q / es] := List.getElem?_eq_getElem hi'
   obtain ⟨hrl, hc⟩ := g3 _ _ hr
   obtain ⟨u, q1, q2⟩ := hc (q % es) _ (List.getElem?_eq_getElem (by omega))
   rw [Nat.div_add_mod'] at q1
   exact ⟨u, q1⟩
  obtain ⟨us, hus⟩ : ∃ us : List Value, us = (List.range (rows.length * es)).map fun q => (w.cell? (at_ a_ (base + q))).getD undef := ⟨_, rfl⟩
  have hul : us.length = rows.length * es := by rw [hus]; simp
  have hug : ∀ q, q < rows.length * es → us[q]? = w.cell? (at_ a_ (base + q)) := fun q hq => by
   obtain ⟨u, q1⟩ := key q hq
   rw [hus, List.getElem?_map, List.getElem?_range hq, q1]
   simp [q1]
  refine ⟨a_, base, c, us, e2, e4, hul, fun j u hj => ?_, fun q row hq => ?_⟩
  ·have hlt := (List.getElem?_eq_some_iff.1 hj).1
   rw [← hug j (by omega)]
   exact hj
  ·obtain ⟨q1, q2⟩ := g3 q row hq
   refine ⟨q1, fun j x hj => ?_⟩
   obtain ⟨u, q3, q4⟩ := q2 j x hj
   have hql : q < rows.length := (List.getElem?_eq_some_iff.1 hq).1
   have hjl : j < es := by rw [← q1]; exact (List.getElem?_eq_some_iff.1 hj).1
   have hmul := Nat.mul_le_mul_right es (show q + 1 ≤ rows.length from hql)
   rw [Nat.add_mul] at hmul
   have hfin : us[q * es + j]? = some u := by rw [hug _ (show q * es + j < rows.length * es from by omega)]; exact q3
   exact ⟨u, hfin, q4⟩
/-- An append of rows that are known cell by cell to such rows that have no room. -/
theorem app_grow_lit (hs : Sat E m w) {t e : TypeId} {i : TypeInfo} {zv : Value} {rows1 rows2 : List (List C)} {b1 b2 n : Nat} {cap2 : Option NN} {v1 v2 : Value} (ty : TypeId) (ht : P.underlying t = some (.slice e)) (hi : P.info? e = some i) (hz : i.zero = some zv) (hzs : zv.cells.size = i.size) (h0 : 0 < i.size)
  (hm1 : m[b1]? = some (.lit i.size rows1)) (hm2 : m[b2]? = some (.lit i.size rows2)) (hne1 : rows1 ≠ []) (hne2 : rows2 ≠ []) (hn1 : n = rows1.length) (hv1 : CRep E m w (.row b1 i.size (some (.lit n))) v1) (hv2 : CRep E m w (.row b2 i.size cap2) v2)
  (hb : (rows1 ++ rows2).length * i.bytes ≤ 140737488355328) (hn : (rows1 ++ rows2).length ≤ 140737488355328) :
  ∃ v' w' E', (Builtin.append_ #[t, t] ty #[v1, v2]).run P w = .ok v' w' ∧ Grow Wt E m w E' (m ++ [.lit i.size (rows1 ++ rows2)]) w' ∧ Sat E' (m ++ [.lit i.size (rows1 ++ rows2)]) w' ∧ CRep E' (m ++ [.lit i.size (rows1 ++ rows2)]) w' (.row m.length i.size none) v' := by
 obtain ⟨a1, base1, c1, us, e1, k1, u1, u2, u3⟩ := lit_cells hs h0 hm1 hne1 hv1
 obtain ⟨a2, base2, c2, vs, e2, k2, v1', v2', v3⟩ := lit_cells hs h0 hm2 hne2 hv2
 have hc1 : c1 = rows1.length := by rw [← hn1]; exact k1 _ rfl
 have hp2 : 0 < rows2.length := List.length_pos_iff.2 hne2
 obtain ⟨v', w', r1, r2, r3⟩ := run_append_arg_grows (P := P) w t ty e i zv i.size i.bytes ht hi hz rfl rfl hzs h0 (at_ a1 base1) rows1.length c1 us u1 (fun j u hj => by rw [at_add]; exact u2 j u hj) (at_ a2 base2) rows2.length c2 vs v1' (fun j u hj => by rw [at_add]; exact v2' j u hj) (by omega) (by unfold maxLen; simp at hn; omega) (by simpa using hb)
 obtain ⟨E', g1, g2, g3⟩ := owns_blk (Wt := Wt) (blk := .lit i.size (rows1 ++ rows2)) (us := us ++ vs) hs trivial (fun _ _ h => by cases h) rfl (by show (us ++ vs).length = (rows1 ++ rows2).length * i.size; rw [List.length_append, List.length_append, u1, v1', Nat.add_mul]) (by simp [Blk.rows, hne1]) h0 (fun q row hq => by
  have hq : (rows1 ++ rows2)[q]? = some row := hq
  rw [List.getElem?_append] at hq
  split at hq
  ·obtain ⟨q1, q2⟩ := u3 q row hq
   refine ⟨q1, fun j x hj => ?_⟩
   obtain ⟨u, q3, q4⟩ := q2 j x hj
   exact ⟨u, by show (us ++ vs)[q * i.size + j]? = some u; rw [List.getElem?_append_left (List.getElem?_eq_some_iff.1 q3).1]; exact q3, q4⟩
  ·rename_i hge
   obtain ⟨q1, q2⟩ := v3 _ row hq
   refine ⟨q1, fun j x hj => ?_⟩
   obtain ⟨u, q3, q4⟩ := q2 j x hj
   have hmul : (q - rows1.length) * i.size = q * i.size - rows1.length * i.size := Nat.sub_mul _ _ _
   have hle := Nat.mul_le_mul_right i.size (Nat.not_lt.1 hge)
   refine ⟨u, ?_, q4⟩
   show (us ++ vs)[q * i.size + j]? = some u
   rw [List.getElem?_append_right (by rw [u1]; omega), u1, show q * i.size + j - rows1.length * i.size = (q - rows1.length) * i.size + j from by omega]
   exact q3) (by simpa [Blk.rows, Blk.es] using r2) r3
 exact ⟨v', w', E', by rw [e1, e2]; exact r1, g1, g2, g3⟩
/-- An append of rows that are known cell by cell to such rows, whatever their room: the old name is forgotten. -/
theorem app_any_lit (hs : Sat E m w) {t e : TypeId} {i : TypeInfo} {zv : Value} {rows1 rows2 : List (List C)} {b1 b2 : Nat} {cap1 cap2 : Option NN} {v1 v2 : Value} (ty : TypeId) (ht : P.underlying t = some (.slice e)) (hi : P.info? e = some i) (hz : i.zero = some zv) (hzs : zv.cells.size = i.size) (h0 : 0 < i.size)
  (hm1 : m[b1]? = some (.lit i.size rows1)) (hm2 : m[b2]? = some (.lit i.size rows2)) (hne1 : rows1 ≠ []) (hne2 : rows2 ≠ []) (hW : Wt b1) (hv1 : CRep E m w (.row b1 i.size cap1) v1) (hv2 : CRep E m w (.row b2 i.size cap2) v2)
  (hb : (rows1 ++ rows2).length * i.bytes ≤ 140737488355328) (hn : (rows1 ++ rows2).length ≤ 140737488355328) :
  ∃ v' w' E', (Builtin.append_ #[t, t] ty #[v1, v2]).run P w = .ok v' w' ∧ Grow Wt E m w E' (m.set b1 .dead ++ [.lit i.size (rows1 ++ rows2)]) w' ∧ Sat E' (m.set b1 .dead ++ [.lit i.size (rows1 ++ rows2)]) w' ∧ CRep E' (m.set b1 .dead ++ [.lit i.size (rows1 ++ rows2)]) w' (.row m.length i.size none) v' := by
 have hlen : (m.set b1 .dead).length = m.length := by simp
 have hv1' := hv1
 obtain ⟨a1, base1, c1, us, e1, k1, u1, u2, u3⟩ := lit_cells hs h0 hm1 hne1 hv1
 obtain ⟨a2, base2, c2, vs, e2, k2, v1', v2', v3⟩ := lit_cells hs h0 hm2 hne2 hv2
 obtain ⟨hρ, hth, hc1⟩ : E.ρ b1 = some (a1, base1) ∧ w.there a1 base1 (c1 * i.size) ∧ rows1.length ≤ c1 := by
  obtain ⟨_, _, h⟩ := hv1'
  obtain ⟨_, _, ⟨_, h⟩ | ⟨a', base', c', g1, g2, g3, _, g5⟩⟩ := h _ hm1 trivial
  ·rw [e1] at h; cases h
  ·rw [e1] at g2
   simp only [at_, Value.slice.injEq, Option.some.injEq, Addr.mk.injEq, and_true] at g2
   obtain ⟨⟨rfl, rfl⟩, _, rfl⟩ := g2
   exact ⟨g1, g5, g3⟩
 have hp2 : 0 < rows2.length := List.length_pos_iff.2 hne2
 have cells : ∀ (q : Nat) (row : List C), (rows1 ++ rows2)[q]? = some row → row.length = i.size ∧ ∀ (j : Nat) (x : C), row[j]? = some x → ∃ u, (us ++ vs)[q * i.size + j]? = some u ∧ CRep E m w x u := fun q row hq => by
  rw [List.getElem?_append] at hq
  split at hq
  ·obtain ⟨q1, q2⟩ := u3 q row hq
   refine ⟨q1, fun j x hj => ?_⟩
   obtain ⟨u, q3, q4⟩ := q2 j x hj
   exact ⟨u, by rw [List.getElem?_append_left (List.getElem?_eq_some_iff.1 q3).1]; exact q3, q4⟩
  ·rename_i hge
   obtain ⟨q1, q2⟩ := v3 _ row hq
   refine ⟨q1, fun j x hj => ?_⟩
   obtain ⟨u, q3, q4⟩ := q2 j x hj
   have hmul : (q - rows1.length) * i.size = q * i.size - rows1.length * i.size := Nat.sub_mul _ _ _
   have hle := Nat.mul_le_mul_right i.size (Nat.not_lt.1 hge)
   refine ⟨u, ?_, q4⟩
   rw [List.getElem?_append_right (by rw [u1]; omega), u1, show q * i.size + j - rows1.length * i.size = (q - rows1.length) * i.size + j from by omega]
   exact q3
 have v4 : ∀ u ∈ vs, u.oneCell' = true := fun u hu => by
  obtain ⟨q, hq⟩ := List.mem_iff_getElem?.1 hu
  have hlt := (List.getElem?_eq_some_iff.1 hq).1
  have hi' : q / i.size < rows2.length := Nat.div_lt_of_lt_mul (by rw [Nat.mul_comm]; omega)
  have hj : q % i.size < i.size := Nat.mod_lt _ h0
  have hr : rows2[q / i.size]? = some rows2[q / i.size] := List.getElem?_eq_getElem hi'
  obtain ⟨hrl, hc⟩ := v3 _ _ hr
  obtain ⟨u', q1, q2⟩ := hc (q % i.size) _ (List.getElem?_eq_getElem (by omega))
  rw [Nat.div_add_mod', hq] at q1
  cases q1
  exact q2.one
 by_cases hroom : rows1.length + rows2.length ≤ c1
 ·have hcm := Nat.mul_le_mul_right i.size hroom
  rw [Nat.add_mul] at hcm
  obtain ⟨w', hw'⟩ : ∃ w', w' = w.setCells a1 (base1 + rows1.length * i.size) vs := ⟨_, rfl⟩
  obtain ⟨s1, s2, s3, s4, s5⟩ := setCells_keep w a1 vs (base1 + rows1.length * i.size) w
  rw [← hw'] at s1 s2 s3 s4 s5
  have hst : Stays w w' := by rw [hw']; exact stays_setCells _ _ _ _
  have hth' : w'.there a1 base1 (c1 * i.size) := there_stays hst hth
  have hsome : ∀ j, j < vs.length → (w.cell? ⟨a1, base1 + rows1.length * i.size + j, none⟩).isSome = true := fun j hj => by
   rw [Nat.add_assoc]
   exact (hth _ (by omega)).1
  have hg := move_grow (Wt := Wt) (off := base1) hs hm1 trivial hρ hW s1 s2 s3 s4 s5 hst (blk' := .lit i.size (rows1 ++ rows2)) (fun j hj => hth' j (by
   have : j < (rows1 ++ rows2).length * i.size := hj
   rw [List.length_append, Nat.add_mul] at this
   omega)) (fun q row hq => by
   obtain ⟨q1, q2⟩ := cells q row hq
   refine ⟨q1, fun j x hj => ?_⟩
   obtain ⟨u, q3, q4⟩ := q2 j x hj
   refine ⟨u, ?_, .inr q4⟩
   rw [hw']
   show (w.setCells a1 (base1 + rows1.length * i.size) vs).cell? (at_ a1 (base1 + (q * i.size + j))) = some u
   rw [List.getElem?_append] at q3
   split at q3
   ·rename_i hlt
    rw [World.cell?_setCells_out a1 _ _ w _ (fun _ _ => .inl (by simp only [at_]; omega))]
    exact u2 _ _ q3
   ·rename_i hge
    obtain ⟨hlt, hv'⟩ := List.getElem?_eq_some_iff.1 q3
    have := World.cell?_setCells_in a1 vs (base1 + rows1.length * i.size) w hsome _ hlt
    rw [hv'] at this
    rw [← this]
    unfold at_
    congr 2
    omega)
  have hr := run_append_room_cells (P := P) w t ty e i ht hi a1 base1 rows1.length c1 (at_ a2 base2) rows2.length c2 vs v1' (fun j u hj => by rw [at_add]; exact v2' j u hj) v4 hroom (fun j hj => by
   rw [Nat.add_assoc]; exact (hth _ (by omega)).1) (fun j hj => by
   rw [Nat.add_assoc]; exact (hth _ (by omega)).2)
  refine ⟨_, w', _, by rw [e1, e2]; rw [hw']; exact hr, hg.1, hg.2, by simp, rfl, fun blk' hb' hl' => ?_⟩
  rw [List.getElem?_append_right (by simp), hlen] at hb'
  simp at hb'
  subst hb'
  exact ⟨rfl, fun c' hc' => (by cases hc'), .inr ⟨a1, base1, c1, if_pos rfl, by simp [Blk.rows, at_], by simpa [Blk.rows] using hroom, fun c' hc' => (by cases hc'), hth'⟩⟩
 ·obtain ⟨k0, ks0⟩ := kill_grow (Wt := Wt) hs b1
  obtain ⟨v', w', r1, r2, r3⟩ := run_append_arg_grows (P := P) w t ty e i zv i.size i.bytes ht hi hz rfl rfl hzs h0 (at_ a1 base1) rows1.length c1 us u1 (fun j u hj => by rw [at_add]; exact u2 j u hj) (at_ a2 base2) rows2.length c2 vs v1' (fun j u hj => by rw [at_add]; exact v2' j u hj) (by omega) (by unfold maxLen; simp at hn; omega) (by simpa using hb)
  obtain ⟨E', g1, g2, g3⟩ := owns_blk (Wt := Wt) (blk := .lit i.size (rows1 ++ rows2)) (us := us ++ vs) ks0 trivial (fun _ _ h => by cases h) rfl (by show (us ++ vs).length = (rows1 ++ rows2).length * i.size; rw [List.length_append, List.length_append, u1, v1', Nat.add_mul]) (by simp [Blk.rows, hne1]) h0 (fun q row hq => by
   obtain ⟨q1, q2⟩ := cells q row hq
   refine ⟨q1, fun j x hj => ?_⟩
   obtain ⟨u, q3, q4⟩ := q2 j x hj
   exact ⟨u, q3, q4.step k0.toStep⟩) (by simpa [Blk.rows, Blk.es] using r2) r3
  rw [hlen] at g3
  exact ⟨v', w', E', by rw [e1, e2]; exact r1, k0.trans g1 (fun _ _ h => h), g2, g3⟩
end
end Go.Proofs.Ytofdnnjkfpomcaa.E

/- Calls: other names for blocks, there and back. -/
namespace Go.Proofs.Ytofdnnjkfpomcaa.E
open Go
set_option linter.unusedVariables false

section
variable {P : Program} {I : Ints} {p : Nat} {E : Env} {m : Mem} {w w' : World} {ts : List A} {a : Act}
variable {Wt : Nat → Prop}
variable {wr : Option (List Nat × Nat)} {er : Bool} {o : Oper} {k : A → Mem → Tree} {Q : Exit → Act → World → Prop}
theorem l_append {t e : TypeId} {ie : TypeInfo} {X Y : Operand} {x y : Opd} {z : List C} (hI : I = ints) (hop : o.op = .call { callee := .builtin .append, args := #[X, Y], argTypes := #[t, t] }) (ht : P.underlying t = some (.slice e)) (hi : P.info? e = some ie) (hz : zero P e = some z) (h0 : 0 < ie.size)
  (ho : opd X = some x) (ho' : opd Y = some y) (hA : At E m w ts a) (h9 : Holds P I p (evOp I er wr (.append ie.size ie.bytes z x y) ts m k)) : LRes P I p E m w wr a o k Q := by
 obtain ⟨c, hc, h8⟩ := evC_inv ho hA h9
 clear h9
 obtain ⟨d, hd, h⟩ := evC_inv ho' hA h8
 clear h8
 obtain ⟨ie', zv, h1, h2, h3, c1, c2⟩ := zero_rep hz E m w
 rw [hi] at h1
 cases h1
 have run : ∀ v' w', (Builtin.append_ #[t, t] o.type #[a.eval X, a.eval Y]).run P w = .ok v' w' → (execOp a.eval o).run P w = .ok (.value v') w' := fun v' w' hr => by
  simp [execOp, hop, resolve, invoke, builtin, hr]
 have nilc : ∀ {c : C} {u : Value}, isNilRow c = true → (c = .any ∨ CRep E m w c u) → u = .slice none 0 0 := fun {c u} hn hc => by
  cases c with
  | g x => cases x with
   | nil => rcases hc with hc | hc <;> cases hc; rfl
   | _ => cases hn
  | _ => cases hn
 intro K hK
 unfold Oper.wp
 split at h
 ·rename_i n1 n2
  have e1 := nilc n1 hc
  have e2 := nilc n2 hd
  rw [run _ _ (by rw [e1, e2]; exact run_append_zero ht hi none none 0 0 0 o.type (Nat.le_refl _) w)]
  exact hK _ _ _ _ _ h (Grow.refl _ _ _ _) hA.sat (.inr GRep.nil)
 ·rename_i n1 n2
  have e1 := nilc n1 hc
  split at h
  ·rename_i src hsrc
   cases h with
   | most b1 b2 h =>
   have hR := rowsOf_reads hI hA.sat hsrc hd
   subst hI
   obtain ⟨v', w', E', r1, g1, g2, g3⟩ := app_nil (Wt := fun b => okW wr b = true) hA.sat o.type ht hi h2 h3 h0 hR b1 b2
   rw [run _ _ (by rw [e1]; exact r1)]
   exact hK _ _ _ _ _ h g1 g2 (.inr g3)
  ·split at h
   ·rename_i b es' cap _
    split at h
    ·rename_i es2 rows he hm
     split at h
     ·rename_i he2
      cases h with
      | most b1 b2 h =>
      obtain rfl : ie.size = es' := by simpa using he
      obtain rfl : ie.size = es2 := by simpa using he2
      rcases hd with hd | hd
      ·cases hd
      obtain ⟨v', w', E', r1, g1, g2, g3⟩ := app_nil_lit (Wt := fun b => okW wr b = true) hA.sat o.type ht hi h2 h3 h0 hm hd b1 b2
      rw [run _ _ (by rw [e1]; exact r1)]
      exact hK _ _ _ _ _ h g1 g2 (.inr g3)
     ·exact (holds_fail h).elim
    ·exact (holds_fail h).elim
   ·exact (holds_fail h).elim
 ·rename_i n1 n2
  have e2 := nilc n2 hd
  have fin : ∀ (b : Nat) (blk : Blk), m[b]? = some blk → blk.live → (∃ A_ n c', a.eval X = .slice A_ n c' ∧ n ≤ c') → Holds P I p (k (.one (.c c)) m) → Oper.upon P o a K Q ((execOp a.eval o).run P w) := by
   rintro b blk hb hl ⟨A_, n, c', e1, e3⟩ h
   rw [run _ _ (by rw [e1, e2]; exact run_append_zero ht hi A_ none n c' 0 o.type e3 w)]
   rw [← e1]
   exact hK _ _ _ _ _ h (Grow.refl _ _ _ _) hA.sat hc
  cases c with
  | row b es' cap =>
   simp only at h
   split at h
   ·exact (holds_fail h).elim
   ·rename_i blk hb hm
    have hl : blk.live := by cases blk <;> first | trivial | exact absurd rfl hb
    refine fin b blk hm hl ?_ h
    rcases hc with hc | ⟨h0', ho', hc⟩
    ·cases hc
    obtain ⟨k1, k2, ⟨e1, e2⟩ | ⟨a', base, c, e1, e2, e3, _⟩⟩ := hc blk hm hl
    ·exact ⟨none, 0, 0, e2, Nat.le_refl _⟩
    ·exact ⟨_, _, c, e2, e3⟩
   ·exact (holds_fail h).elim
  | sl b i es' n cap =>
   simp only at h
   split at h
   ·exact (holds_fail h).elim
   ·rename_i blk hb hm
    have hl : blk.live := by cases blk <;> first | trivial | exact absurd rfl hb
    refine fin b blk hm hl ?_ h
    rcases hc with hc | ⟨h0', ho', hc⟩
    ·cases hc
    obtain ⟨k1, k2, k3, ⟨e1, e2, _⟩ | ⟨a', base, c, off, e1, e2, e3, e4, _⟩⟩ := hc blk hm hl
    ·exact ⟨none, 0, 0, e2, Nat.le_refl _⟩
    ·exact ⟨_, _, c, e2, e4⟩
   ·exact (holds_fail h).elim
  | _ => exact (holds_fail h).elim
 ·split at h
  ·rename_i old src b hold hsrc hb
   split at h
   ·rename_i hW
    cases h with
    | most b1 b2 h =>
    have hD := rowsOf_reads hI hA.sat hold hc
    have hR := rowsOf_reads hI hA.sat hsrc hd
    -- the name's block
    have key : ∃ blk : Blk, m[b]? = some blk ∧ blk.live ∧ ((E.ρ b = none ∧ a.eval X = .slice none 0 0 ∧ old = []) ∨ ∃ a_ base off c', E.ρ b = some (a_, base) ∧ a.eval X = .slice (some (at_ a_ off)) old.length c' ∧ w.there a_ off (c' * ie.size)) := by
     obtain ⟨A_, c', eX, hlc, _, _⟩ := hD
     cases c with
     | row b' es' cap =>
      cases hb
      have hk : ∃ blk : Blk, m[b]? = some blk ∧ blk.live ∧ ie.size = es' := by
       obtain ⟨old0, hold0⟩ := rowsOf_some hold
       simp only [rowsOf0] at hold0
       split at hold0
       ·rename_i he hm; exact ⟨_, hm, trivial, by simpa using he⟩
       ·rename_i he hm; exact ⟨_, hm, trivial, by simpa using he⟩
       ·cases hold0
      obtain ⟨blk, hm, hl, rfl⟩ := hk
      rcases hc with hc | ⟨h0', ho', hc⟩
      ·cases hc
      obtain ⟨k1, k2, ⟨e1, e2⟩ | ⟨a', base, c, e1, e2, e3, e4, e5⟩⟩ := hc blk hm hl
      ·refine ⟨blk, hm, hl, .inl ⟨e1, e2, ?_⟩⟩
       rw [e2] at eX
       simp only [Value.slice.injEq] at eX
       exact List.eq_nil_of_length_eq_zero eX.2.1.symm
      ·rw [e2] at eX
       simp only [Value.slice.injEq] at eX
       exact ⟨blk, hm, hl, .inr ⟨a', base, base, c, e1, by rw [e2, eX.2.1], e5⟩⟩
     | sl b' i es' n cap =>
      cases hb
      have hk : ∃ blk : Blk, m[b]? = some blk ∧ blk.live ∧ ie.size = es' := by
       obtain ⟨old0, hold0⟩ := rowsOf_some hold
       simp only [rowsOf0] at hold0
       split at hold0
       ·rename_i he hm; exact ⟨_, hm, trivial, by simpa using he⟩
       ·rename_i he hm; exact ⟨_, hm, trivial, by simpa using he⟩
       ·cases hold0
      obtain ⟨blk, hm, hl, rfl⟩ := hk
      rcases hc with hc | ⟨h0', ho', hc⟩
      ·cases hc
      obtain ⟨k1, k2, k3, ⟨e1, e2, e3⟩ | ⟨a', base, c, off, e1, e2, e3, e4, e5, e6⟩⟩ := hc blk hm hl
      ·refine ⟨blk, hm, hl, .inl ⟨e1, e2, ?_⟩⟩
       rw [e2] at eX
       simp only [Value.slice.injEq] at eX
       exact List.eq_nil_of_length_eq_zero eX.2.1.symm
      ·rw [e2] at eX
       simp only [Value.slice.injEq] at eX
       refine ⟨blk, hm, hl, .inr ⟨a', base, off, c, e1, by rw [e2, eX.2.1], ?_⟩⟩
       rcases Nat.eq_zero_or_pos c with rfl | hc0
       ·intro j hj; simp at hj
       ·rw [e3 hc0]; exact e6
     | _ => cases hb
    obtain ⟨blk, hm, hl, hk⟩ := key
    subst hI
    rcases hk with ⟨e1, e2, rfl⟩ | ⟨a_, base, off, c', e1, e2, e3⟩
    ·obtain ⟨q0, q1⟩ := kill_grow (Wt := fun b => okW wr b = true) hA.sat b
     have hR' : Reads E w ie.size src (a.eval Y) := hR
     obtain ⟨v', w', E', r1, g1, g2, g3⟩ := app_nil (Wt := fun b => okW wr b = true) q1 o.type ht hi h2 h3 h0 hR' (by simpa [ints] using b1) (by simpa [ints] using b2)
     rw [run _ _ (by rw [e2]; exact r1)]
     have hlen : (m.set b .dead).length = m.length := by simp
     rw [hlen] at g3
     exact hK _ _ _ _ _ h (q0.trans g1 (fun _ _ h => h)) g2 (.inr g3)
    ·rw [e2] at hD
     obtain ⟨v', w', E', r1, g1, g2, g3⟩ := app_row (Wt := fun b => okW wr b = true) hA.sat o.type ht hi h2 h3 h0 hm hl e1 hW hD e3 hR b1 b2
     rw [run _ _ (by rw [e2]; exact r1)]
     exact hK _ _ _ _ _ h g1 g2 (.inr g3)
   ·exact (holds_fail h).elim
  ·unfold appLit at h
   split at h
   ·rename_i b1 es1 n b2 es2 cap2 _ _ _
    split at h
    ·rename_i e1 r1 rows1 e2 r2 rows2 hm1 hm2
     split at h
     ·rename_i x1 x2 x3 x4 x5
      cases h with
      | most q1 q2 h =>
      obtain rfl : ie.size = es1 := by simpa using x1
      obtain rfl : ie.size = es2 := by simpa using x2
      obtain rfl : ie.size = e1 := by simpa using x3
      obtain rfl : ie.size = e2 := by simpa using x4
      rcases hc with hc | hc
      ·cases hc
      rcases hd with hd | hd
      ·cases hd
      obtain ⟨v', w', E', r1', g1, g2, g3⟩ := app_grow_lit (Wt := fun b => okW wr b = true) hA.sat o.type ht hi h2 h3 h0 hm1 hm2 (by simp) (by simp) (by simpa using x5) hc hd q1 q2
      rw [run _ _ r1']
      exact hK _ _ _ _ _ h g1 g2 (.inr g3)
     ·exact (holds_fail h).elim
    ·exact (holds_fail h).elim
   ·rename_i b1 es1 b2 es2 cap2 _ _ _
    split at h
    ·rename_i e1 r1 rows1 e2 r2 rows2 hm1 hm2
     split at h
     ·rename_i x1 x2 x3 x4 x5
      cases h with
      | most q1 q2 h =>
      obtain rfl : ie.size = es1 := by simpa using x1
      obtain rfl : ie.size = es2 := by simpa using x2
      obtain rfl : ie.size = e1 := by simpa using x3
      obtain rfl : ie.size = e2 := by simpa using x4
      rcases hc with hc | hc
      ·cases hc
      rcases hd with hd | hd
      ·cases hd
      obtain ⟨v', w', E', r1', g1, g2, g3⟩ := app_any_lit (Wt := fun b => okW wr b = true) hA.sat o.type ht hi h2 h3 h0 hm1 hm2 (by simp) (by simp) x5 hc hd q1 q2
      rw [run _ _ r1']
      exact hK _ _ _ _ _ h g1 g2 (.inr g3)
     ·exact (holds_fail h).elim
    ·exact (holds_fail h).elim
   ·exact (holds_fail h).elim
end
end Go.Proofs.Ytofdnnjkfpomcaa.E

/- Other names: what is known under the old ones is known under the new ones. -/
namespace Go.Proofs.Ytofdnnjkfpomcaa.E
open Go
set_option linter.unusedVariables false

section
variable {P : Program} {I : Ints} {p : Nat} {E : Env} {m : Mem} {w w' : World} {ts : List A} {a : Act}
/-- The blocks of live names. -/
def LiveAt (Wt : Nat → Prop) (E : Env) (m : Mem) (k : Nat) : Prop := ∃ (b : Nat) (blk : Blk) (x : Nat), m[b]? = some blk ∧ blk.live ∧ Wt b ∧ E.ρ b = some (k, x)
/-- Under the names of σ: the blocks of fz are frozen, those of B are lent. -/
def Env.ren (E : Env) (m : Mem) (σ fz : List Nat) (B : Nat → Prop) : Env where
 F := fun k => E.F k ∨ LiveAt (fun b => b ∈ fz) E m k
 B := fun k => E.B k ∨ LiveAt B E m k
 ρ := fun i => (σ[i]?).bind E.ρ
theorem idx_some {σ : List Nat} {b i : Nat} (h : σ.idxOf? b = some i) : σ[i]? = some b := by
 rw [List.idxOf?_eq_some_iff] at h
 obtain ⟨hi, h1, _⟩ := h
 rw [List.getElem?_eq_getElem hi]
 simpa using h1
theorem idx_none {σ : List Nat} {b : Nat} (h : σ.idxOf? b = none) : b ∉ σ := by
 rw [List.idxOf?_eq_none_iff] at h
 exact h
theorem capsInv_get {σ : List Nat} : ∀ {l l' : List (Nat × Nat × Nat)}, capsInv σ l = some l' → l'.length = l.length ∧ ∀ (i b es j : Nat), l'[i]? = some (b, es, j) → ∃ b0, l[i]? = some (b0, es, j) ∧ σ.idxOf? b0 = some b
 | [], l', h => by cases h; exact ⟨rfl, fun i b es j h => by simp at h⟩
 | (b1, e1, j1) :: r, l', h => by
  simp only [capsInv] at h
  split at h
  ·rename_i b2 l2 hb hr
   cases h
   obtain ⟨g1, g2⟩ := capsInv_get hr
   refine ⟨by simp [g1], fun i b es j hi => ?_⟩
   cases i with
   | zero => simp at hi; obtain ⟨rfl, rfl, rfl⟩ := hi; exact ⟨b1, rfl, hb⟩
   | succ i => simpa using g2 i b es j (by simpa using hi)
  ·cases h
theorem ReadsT.row {T : Nat → Prop} {es : Nat} {l : List (List G)} {v : Value} (h : ReadsT T E w es l v) : ∃ A_ c u, v = .slice A_ l.length c ∧ l.length ≤ c ∧ RowAt w T es l A_ u ∧ ∀ (i : Nat) (r : List G) (j : Nat) (x : G), l[i]? = some r → r[j]? = some x → GRep E.F w x (u i j) := by
 obtain ⟨A_, c, h1, h2, h3, h4⟩ := h
 rcases h4 with rfl | ⟨a_, off, rfl, hT, h4⟩
 ·exact ⟨A_, c, fun _ _ => undef, h1, h2, ⟨h3, fun i r j x h => by simp at h, fun h => absurd rfl h⟩, fun i r j x h => by simp at h⟩
 ·refine ⟨_, c, fun i j => (w.cell? (at_ a_ (off + (i * es + j)))).getD undef, h1, h2, ⟨h3, fun i r j x hi hj => ?_, fun _ => ⟨a_, off, rfl, hT⟩⟩, fun i r j x hi hj => ?_⟩
  ·obtain ⟨u, q1, q2⟩ := h4 i r j x hi hj
   exact ⟨a_, off, rfl, hT, by rw [q1]; rfl⟩
  ·obtain ⟨u, q1, q2⟩ := h4 i r j x hi hj
   simp only [q1]
   exact q2
theorem ren_G {σ fz : List Nat} {B : Nat → Prop} {x : G} {u : Value} (h : GRep E.F w x u) : GRep (E.ren m σ fz B).F w x u := GRep.step (fun k hk => .inl hk) (fun _ _ => rfl) h
/-- A memory under other names has the same blocks. -/
structure Shape (m : Mem) (σ : List Nat) (m0 : Mem) : Prop where
 len : m0.length = σ.length
 get : ∀ (i b : Nat) (blk0 : Blk), σ[i]? = some b → m0[i]? = some blk0 → blk0.live → ∃ blk : Blk, m[b]? = some blk ∧ blk.live ∧ blk0.rows.length = blk.rows.length ∧ blk0.es = blk.es
theorem inv_rows (σ : List Nat) (q : How) (m : Mem) (b : Blk) : (b.inv I σ q m).rows.length = b.rows.length ∧ (b.inv I σ q m).es = b.es ∧ ((b.inv I σ q m).live ↔ b.live) := by
 cases b <;> simp [Blk.inv, Blk.rows, Blk.es, Blk.live]
theorem inv_shape (σ : List Nat) (q : How) (m : Mem) : Shape m σ (invMem I σ q m) := by
 refine ⟨by simp [invMem], fun i b blk0 hi h0 hl => ?_⟩
 rw [invMem, List.getElem?_map, hi] at h0
 simp at h0
 subst h0
 obtain ⟨h1, h2, h3⟩ := inv_rows (I := I) σ q m (m.getD b .dead)
 have hl' := h3.1 hl
 rw [List.getD_eq_getElem?_getD] at hl' h1 h2
 cases hb : m[b]? with
 | none => rw [hb] at hl'; exact hl'.elim
 | some blk =>
  rw [hb] at hl' h1 h2
  exact ⟨blk, rfl, hl', by simpa using h1, by simpa using h2⟩
theorem CRep.inv (hI : I = ints) (hs : Sat E m w) {σ fz : List Nat} {B : Nat → Prop} {q : How} {m0 : Mem} (hfz : ∀ l, q = .frz l → ∀ b ∈ l, b ∉ σ → b ∈ fz) (hB : ∀ es, q = .bor es → ∀ b, b ∉ σ → B b) (hm : Shape m σ m0) {x : C} {u : Value} (hx : CRep E m w x u) :
  CRep (E.ren m σ fz B) m0 w (x.inv I σ q m) u := by
 have low : ∀ (b es : Nat) (x : C) (hn : b ∉ σ) (hR : ∀ k, RT E m x k → LiveAt (fun b' => b' = b) E m k), CRep E m w x u → CRep (E.ren m σ fz B) m0 w (q.low b es (rowsOf I es x m)) u := by
  intro b es x hn hR hx
  unfold How.low
  split
  ·rename_i es' l hl
   obtain ⟨A_, c, u', h1, h2, h3, h4⟩ := ((rowsOf_readsT hI hs hl (.inr hx)).mono hR).row
   refine ⟨A_, c, u', h1, h2, h3.step (fun k hk => .inr (.inr ?_)) (fun _ _ => rfl), fun i r j x hi hj => ren_G (h4 i r j x hi hj)⟩
   obtain ⟨b', blk, x', q1, q2, rfl, q3⟩ := hk
   exact ⟨b', blk, x', q1, q2, hB _ rfl _ hn, q3⟩
  ·rename_i fz' l hl
   split
   ·rename_i hc
    obtain ⟨A_, c, u', rfl, h2, h3, h4⟩ := ((rowsOf_readsT hI hs hl (.inr hx)).mono hR).row
    refine GRep.rows u' h2 (h3.step (fun k hk => .inr ?_) (fun _ _ => rfl)) (fun i r j x hi hj => ren_G (h4 i r j x hi hj))
    obtain ⟨b', blk, x', q1, q2, rfl, q3⟩ := hk
    exact ⟨b', blk, x', q1, q2, hfz _ rfl _ (by simpa using hc) hn, q3⟩
   ·exact hx.one
  ·exact hx.one
 cases x with
 | any => exact hx
 | g x =>
  cases x with
  | rows es l =>
   cases q with
   | bor es' =>
    cases hx with
    | rows u' h1 h2 h3 => exact ⟨_, _, u', rfl, h1, h2.step (fun k hk => .inl (.inl hk)) (fun _ _ => rfl), fun i r j x hi hj => ren_G (h3 i r j x hi hj)⟩
   | _ => exact ren_G (m := m) hx
  | nil =>
   cases hx
   cases q with
   | bor es' => exact ⟨none, 0, fun _ _ => undef, rfl, Nat.le_refl _, ⟨fun i r h => by simp at h, fun i r j x h => by simp at h, fun h => absurd rfl h⟩, fun i r j x h => by simp at h⟩
   | rows es' => exact GRep.rows (l := []) (fun _ _ => undef) (Nat.le_refl _) ⟨fun i r h => by simp at h, fun i r j x h => by simp at h, fun h => absurd rfl h⟩ (fun i r j x h => by simp at h)
   | _ => exact GRep.nil
  | _ => exact ren_G (m := m) hx
 | bor es l =>
  obtain ⟨A_, c, u', h1, h2, h3, h4⟩ := hx
  exact ⟨A_, c, u', h1, h2, h3.step (fun k hk => hk.imp .inl .inl) (fun _ _ => rfl), fun i r j x hi hj => ren_G (h4 i r j x hi hj)⟩
 | gp row j =>
  obtain ⟨a_, off, h1, h2, h3⟩ := hx
  exact ⟨a_, off, h1, h2.imp .inl .inl, fun j x hj => let ⟨u, q1, q2⟩ := h3 j x hj; ⟨u, q1, ren_G q2⟩⟩
 | ptr b i es j =>
  simp only [C.inv]
  cases hb : σ.idxOf? b with
  | none => exact hx.one
  | some i' =>
   have hi := idx_some hb
   obtain ⟨_, a_, base, h1, h2⟩ := hx
   exact ⟨by rw [hm.len]; exact (List.getElem?_eq_some_iff.1 hi).1, a_, base, by simp [Env.ren, hi, h1], h2⟩
 | row b es cap =>
  simp only [C.inv]
  cases hb : σ.idxOf? b with
  | none => exact low b es _ (idx_none hb) (fun k ⟨blk, x, h1, h2, h3⟩ => ⟨b, blk, x, h1, h2, rfl, h3⟩) hx
  | some i' =>
   have hi := idx_some hb
   obtain ⟨_, ho, h2⟩ := hx
   refine ⟨by rw [hm.len]; exact (List.getElem?_eq_some_iff.1 hi).1, ho, fun blk0 h0 hl => ?_⟩
   obtain ⟨blk, q1, q2, q3, q4⟩ := hm.get i' b blk0 hi h0 hl
   rw [q3, q4]
   have : (E.ren m σ fz B).ρ i' = E.ρ b := by simp [Env.ren, hi]
   rw [this]
   exact h2 blk q1 q2
 | sl b i es n cap =>
  simp only [C.inv]
  cases hb : σ.idxOf? b with
  | none => exact low b es _ (idx_none hb) (fun k ⟨blk, x, h1, h2, h3⟩ => ⟨b, blk, x, h1, h2, rfl, h3⟩) hx
  | some i' =>
   have hi := idx_some hb
   obtain ⟨_, ho, h2⟩ := hx
   refine ⟨by rw [hm.len]; exact (List.getElem?_eq_some_iff.1 hi).1, ho, fun blk0 h0 hl => ?_⟩
   obtain ⟨blk, q1, q2, q3, q4⟩ := hm.get i' b blk0 hi h0 hl
   rw [q3, q4]
   have : (E.ren m σ fz B).ρ i' = E.ρ b := by simp [Env.ren, hi]
   rw [this]
   exact h2 blk q1 q2
 | fn f l =>
  simp only [C.inv]
  cases hb : capsInv σ l with
  | none => exact hx.one
  | some l' =>
   obtain ⟨us, h1, h2, h3⟩ := hx
   obtain ⟨g1, g2⟩ := capsInv_get hb
   refine ⟨us, h1, h2.trans g1.symm, fun i b es j hi => ?_⟩
   obtain ⟨b0, g3, g4⟩ := g2 i b es j hi
   obtain ⟨_, a_, base, h5, h6⟩ := h3 i b0 es j g3
   have hi := idx_some g4
   exact ⟨by rw [hm.len]; exact (List.getElem?_eq_some_iff.1 hi).1, a_, base, by simp [Env.ren, hi, h5], h6⟩
 | map b =>
  simp only [C.inv]
  cases hb : σ.idxOf? b with
  | none => exact hx.one
  | some i' =>
   have hi := idx_some hb
   obtain ⟨_, a_, base, h1, h2⟩ := hx
   exact ⟨by rw [hm.len]; exact (List.getElem?_eq_some_iff.1 hi).1, a_, base, by simp [Env.ren, hi, h1], h2⟩
 | stamp b z =>
  simp only [C.inv]
  cases hb : σ.idxOf? b with
  | none => exact hx.one
  | some i' =>
   have hi := idx_some hb
   obtain ⟨_, a_, base, born, es, c, h1, h2⟩ := hx
   exact ⟨by rw [hm.len]; exact (List.getElem?_eq_some_iff.1 hi).1, a_, base, born, es, c, by simp [Env.ren, hi, h1], h2⟩
theorem V1Rep.inv (hI : I = ints) (hs : Sat E m w) {σ fz : List Nat} {B : Nat → Prop} {q : How} {m0 : Mem} (hfz : ∀ l, q = .frz l → ∀ b ∈ l, b ∉ σ → b ∈ fz) (hB : ∀ es, q = .bor es → ∀ b, b ∉ σ → B b) (hm : Shape m σ m0) {x : V1} {u : Value} (hx : V1Rep E m w x u) :
  V1Rep (E.ren m σ fz B) m0 w (x.inv I σ q m) u := by
 cases x with
 | c x =>
  rcases hx with rfl | hx
  ·exact .inl rfl
  ·exact .inr (hx.inv hI hs hfz hB hm)
 | agg l =>
  obtain ⟨cs, h1, h2, h3⟩ := hx
  refine ⟨cs, h1, by simpa using h2, fun i x hi => ?_⟩
  rw [List.getElem?_map] at hi
  cases hq : l[i]? with
  | none => simp [hq] at hi
  | some y =>
   simp [hq] at hi
   subst hi
   obtain ⟨u, q1, q2⟩ := h3 i y hq
   exact ⟨u, q1, q2.inv hI hs hfz hB hm⟩
theorem ARep.inv (hI : I = ints) (hs : Sat E m w) {σ fz : List Nat} {B : Nat → Prop} {q : How} {m0 : Mem} (hfz : ∀ l, q = .frz l → ∀ b ∈ l, b ∉ σ → b ∈ fz) (hB : ∀ es, q = .bor es → ∀ b, b ∉ σ → B b) (hm : Shape m σ m0) {x : A} {u : Value} (hx : ARep E m w x u) :
  ARep (E.ren m σ fz B) m0 w (x.inv I σ q m) u := by
 cases x with
 | one v => exact V1Rep.inv hI hs hfz hB hm hx
 | tup l =>
  obtain ⟨cs, h1, h2, h3⟩ := hx
  refine ⟨cs, h1, by simpa using h2, fun i x hi => ?_⟩
  rw [List.getElem?_map] at hi
  cases hq : l[i]? with
  | none => simp [hq] at hi
  | some y =>
   simp [hq] at hi
   subst hi
   obtain ⟨u, q1, q2⟩ := h3 i y hq
   exact ⟨u, q1, V1Rep.inv hI hs hfz hB hm q2⟩
/-- The memory under other names. -/
theorem Sat.inv (hI : I = ints) (hs : Sat E m w) {σ fz : List Nat} {B : Nat → Prop} {q : How} (hσ : σ.Nodup) (hfz : ∀ l, q = .frz l → ∀ b ∈ l, b ∉ σ → b ∈ fz) (hB : ∀ es, q = .bor es → ∀ b, b ∉ σ → B b) (hBσ : ∀ b, B b → b ∉ σ) (hfσ : ∀ b ∈ fz, b ∉ σ) :
  Sat (E.ren m σ fz B) (invMem I σ q m) w := by
 have hsh := inv_shape (I := I) σ q m
 have get : ∀ (i : Nat) (blk0 : Blk), (invMem I σ q m)[i]? = some blk0 → ∃ b, σ[i]? = some b ∧ blk0 = (m.getD b .dead).inv I σ q m := fun i blk0 h => by
  rw [invMem, List.getElem?_map] at h
  cases hq : σ[i]? with
  | none => simp [hq] at h
  | some b => simp [hq] at h; exact ⟨b, rfl, by rw [List.getD_eq_getElem?_getD]; exact h.symm⟩
 have hρ : ∀ (i b : Nat), σ[i]? = some b → (E.ren m σ fz B).ρ i = E.ρ b := fun i b h => by simp [Env.ren, h]
 have uniq : ∀ (i j b : Nat), σ[i]? = some b → σ[j]? = some b → i = j := fun i j b h1 h2 => by
  exact (List.getElem?_inj (List.getElem?_eq_some_iff.1 h1).1 hσ).1 (h1.trans h2.symm)
 have live : ∀ (i b : Nat) (blk0 : Blk), (invMem I σ q m)[i]? = some blk0 → σ[i]? = some b → blk0.live → ∃ blk : Blk, m[b]? = some blk ∧ blk.live ∧ blk0 = blk.inv I σ q m := fun i b blk0 h h1 hl => by
  obtain ⟨b', h2, rfl⟩ := get i blk0 h
  rw [h1] at h2
  cases h2
  have h3 := (inv_rows (I := I) σ q m (m.getD b .dead)).2.2.1 hl
  rw [List.getD_eq_getElem?_getD] at h3 ⊢
  cases hb : m[b]? with
  | none => rw [hb] at h3; exact h3.elim
  | some blk => rw [hb] at h3; exact ⟨blk, rfl, h3, rfl⟩
 refine ⟨fun i blk0 h0 hl => ?_, fun i j bi bj a_ x y hi hj li lj ei ej => ?_, fun i bi a_ x hi li ei => ?_, fun k hk => ?_, fun i ag l h0 => ?_⟩
 ·obtain ⟨b, h1, _⟩ := get i blk0 h0
  obtain ⟨blk, h2, h3, rfl⟩ := live i b blk0 h0 h1 hl
  obtain ⟨r1, r2, r3⟩ := inv_rows (I := I) σ q m blk
  rw [hρ i b h1]
  rcases hs.rep b blk h2 h3 with ⟨e, h4⟩ | ⟨a_, base, e, g1, g2, g3⟩
  ·refine .inl ⟨e, ?_⟩
   exact List.eq_nil_of_length_eq_zero (by rw [r1, h4]; rfl)
  ·refine .inr ⟨a_, base, e, by rw [r1, r2]; exact g1, g2, fun i row hi => ?_⟩
   rw [r2]
   have key : (∃ row0, blk.rows[i]? = some row0 ∧ row = row0.map (C.inv I σ q m)) ∨ (blk.rows[i]? = some row ∧ ∀ (j : Nat) (x : C), row[j]? = some x → ∃ g, x = .g g) := by
    cases blk with
    | dead => exact h3.elim
    | lit es rows =>
     simp only [Blk.inv, Blk.rows, List.getElem?_map] at hi
     cases hq : rows[i]? with
     | none => simp [hq] at hi
     | some row0 => simp [hq] at hi; exact .inl ⟨row0, hq, hi.symm⟩
    | sym es l =>
     refine .inr ⟨hi, fun j x hj => ?_⟩
     simp only [Blk.inv, Blk.rows, List.getElem?_map] at hi
     cases hq : l[i]? with
     | none => simp [hq] at hi
     | some r =>
      simp [hq] at hi
      subst hi
      rw [List.getElem?_map] at hj
      cases hr : r[j]? with
      | none => simp [hr] at hj
      | some g => simp [hr] at hj; exact ⟨g, hj.symm⟩
    | mp ag l => simp [Blk.inv, Blk.rows] at hi
   rcases key with ⟨row0, k1, rfl⟩ | ⟨k1, k2⟩
   ·obtain ⟨q1, q2⟩ := g3 i row0 k1
    refine ⟨by simpa using q1, fun j x hj => ?_⟩
    rw [List.getElem?_map] at hj
    cases hr : row0[j]? with
    | none => simp [hr] at hj
    | some y =>
     simp [hr] at hj
     subst hj
     obtain ⟨u, q3, q4⟩ := q2 j y hr
     exact ⟨u, q3, q4.inv hI hs hfz hB hsh⟩
   ·obtain ⟨q1, q2⟩ := g3 i row k1
    refine ⟨q1, fun j x hj => ?_⟩
    obtain ⟨u, q3, q4⟩ := q2 j x hj
    obtain ⟨g, rfl⟩ := k2 j x hj
    exact ⟨u, q3, ren_G (m := m) q4⟩
 ·obtain ⟨b, h1, _⟩ := get i bi hi
  obtain ⟨c, h2, _⟩ := get j bj hj
  obtain ⟨b1, h3, h4, _⟩ := live i b bi hi h1 li
  obtain ⟨b2, h5, h6, _⟩ := live j c bj hj h2 lj
  rw [hρ i b h1] at ei
  rw [hρ j c h2] at ej
  obtain rfl := hs.inj b c b1 b2 a_ x y h3 h5 h4 h6 ei ej
  exact uniq i j b h1 h2
 ·obtain ⟨b, h1, _⟩ := get i bi hi
  obtain ⟨b1, h3, h4, _⟩ := live i b bi hi h1 li
  rw [hρ i b h1] at ei
  obtain ⟨d1, d2⟩ := hs.dis b b1 a_ x h3 h4 ei
  have hbσ : b ∈ σ := List.mem_of_getElem? h1
  refine ⟨fun h => h.elim d1 ?_, fun h => h.elim d2 ?_⟩
  ·rintro ⟨c, blk, x', q1, q2, q3, q4⟩
   obtain rfl := hs.inj b c b1 blk a_ x x' h3 q1 h4 q2 ei q4
   exact hfσ _ q3 hbσ
  ·rintro ⟨c, blk, x', q1, q2, q3, q4⟩
   obtain rfl := hs.inj b c b1 blk a_ x x' h3 q1 h4 q2 ei q4
   exact hBσ _ q3 hbσ
 ·rcases hk with (hk | ⟨c, blk, x', q1, q2, q3, q4⟩) | (hk | ⟨c, blk, x', q1, q2, q3, q4⟩)
  ·exact hs.old k (.inl hk)
  ·exact blk_lt hs q1 q2 q4
  ·exact hs.old k (.inr hk)
  ·exact blk_lt hs q1 q2 q4
 ·obtain ⟨b, h1, _⟩ := get i _ h0
  obtain ⟨blk, h2, h3, e⟩ := live i b _ h0 h1 trivial
  cases blk with
  | mp ag' l' =>
   cases e
   obtain ⟨a_, e, hlt, hm⟩ := hs.maps b ag l h2
   exact ⟨a_, by rw [hρ i b h1]; exact e, hlt, hm.step (fun k hk => .inl hk) (fun _ _ => rfl) rfl⟩
  | _ => cases e
end
end Go.Proofs.Ytofdnnjkfpomcaa.E

/- Maps of numbers, copies, bytes as a text. -/
namespace Go.Proofs.Ytofdnnjkfpomcaa.E
open Go
set_option linter.unusedVariables false

section
variable {P : Program} {I : Ints} {p : Nat} {E : Env} {m : Mem} {w w' : World} {ts : List A} {a : Act}
variable {Wt : Nat → Prop}
variable {wr : Option (List Nat × Nat)} {er : Bool} {o : Oper} {k : A → Mem → Tree} {Q : Exit → Act → World → Prop}
theorem l_dead (h : Holds P I p (evOp I er wr .dead ts m k)) : LRes P I p E m w wr a o k Q := (holds_fail h).elim
/-! ### What is stored may be frozen -/
def Env.fz (E : Env) (b : Nat) : Env := ⟨fun k => E.F k ∨ ∃ x, E.ρ b = some (k, x), E.B, E.ρ⟩
theorem fz_grow (hs : Sat E m w) {b : Nat} {blk : Blk} (hb : m[b]? = some blk) (hl : blk.live) : Grow Wt E m w (E.fz b) (m.set b .dead) w ∧ Sat (E.fz b) (m.set b .dead) w := by
 have old : ∀ (i : Nat) (bi : Blk), (m.set b .dead)[i]? = some bi → bi.live → i ≠ b ∧ m[i]? = some bi := fun i bi hi li => by
  rcases get_set hi with ⟨_, rfl, _⟩ | ⟨h1, h⟩
  ·exact li.elim
  ·exact ⟨h1, h⟩
 have step : Step E m w (E.fz b) (m.set b .dead) w :=
  {F := fun _ h => .inl h, B := fun _ h => h, ρ := fun _ _ => rfl, len := by simp, shape := fun id blk' hid h1 h2 => ⟨blk', (old _ _ h1 h2).2, h2, rfl, rfl⟩, frz := fun _ _ => rfl, stays := Stays.refl w }
 refine ⟨{ toStep := step, B' := fun _ h => h, os := rfl, tape := rfl, output := rfl, size := Nat.le_refl _, block := fun _ _ _ => rfl, newF := fun k hk => hk.imp id (fun ⟨x, hx⟩ => .inr ⟨b, blk, x, hb, hl, trivial, hx⟩), newρ := fun id a_ x blk1 hid h1 _ _ => ?_ }, ?_⟩
 ·rw [List.getElem?_eq_none (by simpa using hid)] at h1; cases h1
 ·refine ⟨fun id blk' h1 l1 => ?_, fun i j bi bj c x y hi hj li lj => hs.inj i j bi bj c x y (old _ _ hi li).2 (old _ _ hj lj).2 li lj, fun i bi c x hi li e => ?_, fun k hk => ?_, fun id ag l h => ?_⟩
  ·rcases hs.rep id blk' (old _ _ h1 l1).2 l1 with h | ⟨a_, base, e, g1, g2, g3⟩
   ·exact .inl h
   ·exact .inr ⟨a_, base, e, g1, g2, fun i row hi => ⟨(g3 i row hi).1, fun j x hj => let ⟨u, q1, q2⟩ := (g3 i row hi).2 j x hj; ⟨u, q1, q2.step step⟩⟩⟩
  ·obtain ⟨hib, hi⟩ := old _ _ hi li
   obtain ⟨d1, d2⟩ := hs.dis i bi c x hi li e
   exact ⟨fun h => h.elim d1 (fun ⟨y, hy⟩ => hib (hs.inj i b bi blk c x y hi hb li hl e hy)), d2⟩
  ·rcases hk with (hk | ⟨x, hx⟩) | hk
   ·exact hs.old k (.inl hk)
   ·exact blk_lt hs hb hl hx
   ·exact hs.old k (.inr hk)
  ·obtain ⟨a_, e, hlt, hm⟩ := hs.maps id ag l (old id _ h trivial).2
   exact ⟨a_, e, hlt, hm.step (fun k hk => .inl hk) (fun _ _ => rfl) rfl⟩
theorem rowsOf_live {b es : Nat} {c : Option NN} {l : List (List G)} (h : rowsOf I es (.row b es c) m = some l) : ∃ blk, m[b]? = some blk ∧ blk.live := by
 obtain ⟨l0, h0⟩ := rowsOf_some h
 simp only [rowsOf0] at h0
 split at h0
 ·rename_i hm
  exact ⟨_, hm, trivial⟩
 ·rename_i hm
  exact ⟨_, hm, trivial⟩
 ·cases h0
theorem frzC_inv (hI : I = ints) : ∀ (cs : List C) {E : Env} {m : Mem} {us : List Value} {k : List G → Mem → Tree}, At E m w ts a → (∀ (i : Nat) (x : C), cs[i]? = some x → ∃ u, us[i]? = some u ∧ CRep E m w x u) → Holds P I p (frzC I cs m k) →
  ∃ gs E' m', At E' m' w ts a ∧ Grow Wt E m w E' m' w ∧ gs.length = cs.length ∧ (∀ (i : Nat) (g : G), gs[i]? = some g → ∃ u, us[i]? = some u ∧ GRep E'.F w g u) ∧ Holds P I p (k gs m')
 | [], E, m, us, k, hA, hr, h => ⟨[], E, m, hA, Grow.refl _ _ _ _, rfl, fun i g hi => by simp at hi, h⟩
 | .g x :: r, E, m, us, k, hA, hr, h => by
  simp only [frzC] at h
  obtain ⟨u, hu, hx⟩ := hr 0 _ rfl
  obtain ⟨gs, E', m', h1, h2, h3, h4, h5⟩ := frzC_inv hI r (us := us.tail) hA (fun i y hi => by
   obtain ⟨v, q1, q2⟩ := hr (i + 1) y (by simpa using hi)
   exact ⟨v, by rw [List.getElem?_tail]; exact q1, q2⟩) h
  refine ⟨x :: gs, E', m', h1, h2, by simp [h3], fun i g hi => ?_, h5⟩
  cases i with
  | zero => simp at hi; subst hi; exact ⟨u, hu, GRep.step h2.F (fun k hk => h2.frz k (.inl hk)) hx⟩
  | succ i =>
   obtain ⟨v, q1, q2⟩ := h4 i g (by simpa using hi)
   exact ⟨v, by rw [← q1, List.getElem?_tail], q2⟩
 | .row b es c :: r, E, m, us, k, hA, hr, h => by
  simp only [frzC] at h
  split at h
  ·rename_i l hl
   obtain ⟨u, hu, hx⟩ := hr 0 _ rfl
   obtain ⟨blk, hb, hlv⟩ := rowsOf_live hl
   obtain ⟨g1, s1⟩ := fz_grow (Wt := Wt) hA.sat hb hlv
   have hR := (rowsOf_readsT hI hA.sat hl (.inr hx)).mono (T' := (E.fz b).F) (fun k ⟨_, x, _, _, h⟩ => .inr ⟨x, h⟩)
   obtain ⟨A_, c', u', e, hc, hrow, hg⟩ := hR.row
   have hG : GRep (E.fz b).F w (.rows es l) u := by
    rw [e]
    exact .rows u' hc hrow (fun i r j x hi hj => GRep.step (fun _ h => .inl h) (fun _ _ => rfl) (hg i r j x hi hj))
   obtain ⟨gs, E', m', h1, h2, h3, h4, h5⟩ := frzC_inv hI r (us := us.tail) ⟨s1, hA.ts.step g1.toStep, hA.defers.step g1.toStep⟩ (fun i y hi => by
    obtain ⟨v, q1, q2⟩ := hr (i + 1) y (by simpa using hi)
    exact ⟨v, by rw [List.getElem?_tail]; exact q1, q2.step g1.toStep⟩) h
   refine ⟨.rows es l :: gs, E', m', h1, g1.trans h2 (fun _ _ h => h), by simp [h3], fun i g hi => ?_, h5⟩
   cases i with
   | zero => simp at hi; subst hi; exact ⟨u, hu, GRep.step h2.F (fun k hk => h2.frz k (.inl hk)) hG⟩
   | succ i =>
    obtain ⟨v, q1, q2⟩ := h4 i g (by simpa using hi)
    exact ⟨v, by rw [← q1, List.getElem?_tail], q2⟩
  ·exact (holds_fail h).elim
 | .any :: _, _, _, _, _, _, _, h => (holds_fail h).elim
 | .bor _ _ :: _, _, _, _, _, _, _, h => (holds_fail h).elim
 | .gp _ _ :: _, _, _, _, _, _, _, h => (holds_fail h).elim
 | .ptr _ _ _ _ :: _, _, _, _, _, _, _, h => (holds_fail h).elim
 | .sl _ _ _ _ _ :: _, _, _, _, _, _, _, h => (holds_fail h).elim
 | .fn _ _ :: _, _, _, _, _, _, _, h => (holds_fail h).elim
 | .map _ :: _, _, _, _, _, _, _, h => (holds_fail h).elim
 | .stamp _ _ :: _, _, _, _, _, _, _, h => (holds_fail h).elim
theorem frzV_inv (hI : I = ints) {v : V1} {u : Value} {k : V1 → Mem → Tree} (hA : At E m w ts a) (hv : V1Rep E m w v u) (hn : v ≠ .c .any) (h : Holds P I p (frzV I v m k)) :
  ∃ v' E' m', At E' m' w ts a ∧ Grow Wt E m w E' m' w ∧ V1Rep E' m' w v' u ∧ v' ≠ .c .any ∧ Holds P I p (k v' m') := by
 unfold frzV at h
 split at h
 ·exact ⟨v, E, m, hA, Grow.refl _ _ _ _, hv, hn, h⟩
 ·cases v with
  | c x =>
   rcases hv with hv | hv
   ·exact absurd (by rw [hv]) hn
   obtain ⟨gs, E', m', h1, h2, h3, h4, h5⟩ := frzC_inv (Wt := Wt) hI [x] (us := [u]) hA (fun i y hi => by
    cases i with
    | zero => simp at hi; subst hi; exact ⟨u, rfl, hv⟩
    | succ i => simp at hi) h
   match gs, h3 with
   | [g], _ =>
    obtain ⟨u', q1, q2⟩ := h4 0 g rfl
    cases q1
    exact ⟨.c (.g g), E', m', h1, h2, .inr q2, by simp, h5⟩
  | agg l =>
   obtain ⟨cs, rfl, hz, hr⟩ := hv
   obtain ⟨gs, E', m', h1, h2, h3, h4, h5⟩ := frzC_inv (Wt := Wt) hI l (us := cs.toList) hA (fun i y hi => by
    obtain ⟨u, q1, q2⟩ := hr i y hi
    exact ⟨u, by rw [Array.getElem?_toList]; exact q1, q2⟩) h
   refine ⟨.agg (gs.map C.g), E', m', h1, h2, ⟨cs, rfl, by rw [List.length_map, h3]; exact hz, fun i x hi => ?_⟩, by simp, h5⟩
   rw [List.getElem?_map] at hi
   obtain ⟨g, hg, rfl⟩ := Option.map_eq_some_iff.1 hi
   obtain ⟨u, q1, q2⟩ := h4 i g hg
   exact ⟨u, by rw [← Array.getElem?_toList]; exact q1, q2⟩
theorem Parts.step {E' : Env} {m' : Mem} {place : Nat → Option (Nat × Nat)} (g : Step E m w E' m' w) : ∀ {ps : List (Nat × Operand)} {vs : List (Nat × Nat × V1)}, Parts E m w a place ps vs → Parts E' m' w a place ps vs
 | _, _, .nil => .nil
 | _, _, .cons hp hv hn hP => .cons hp (hv.step g) hn (Parts.step g hP)
theorem frzP_inv (hI : I = ints) {place : Nat → Option (Nat × Nat)} : ∀ {ps : List (Nat × Operand)} {vs : List (Nat × Nat × V1)} {E : Env} {m : Mem} {k : List (Nat × Nat × V1) → Mem → Tree}, At E m w ts a → Parts E m w a place ps vs → Holds P I p (frzP I vs m k) →
  ∃ vs' E' m', At E' m' w ts a ∧ Grow Wt E m w E' m' w ∧ Parts E' m' w a place ps vs' ∧ Holds P I p (k vs' m')
 | _, _, E, m, k, hA, .nil, h => ⟨[], E, m, hA, Grow.refl _ _ _ _, .nil, h⟩
 | _, _, E, m, k, hA, .cons hp hv hn hP, h => by
  simp only [frzP] at h
  split at h
  ·obtain ⟨v', E1, m1, hA1, g1, hv1, hn1, h1⟩ := frzV_inv (Wt := Wt) hI hA hv hn h
   obtain ⟨vs', E2, m2, hA2, g2, hP2, h2⟩ := frzP_inv hI hA1 (Parts.step g1.toStep hP) h1
   exact ⟨_, E2, m2, hA2, g1.trans g2 (fun _ _ h => h), .cons hp (hv1.step g2.toStep) hn1 hP2, h2⟩
  ·obtain ⟨vs', E2, m2, hA2, g2, hP2, h2⟩ := frzP_inv hI hA hP h
   exact ⟨_, E2, m2, hA2, g2, .cons hp (hv.step g2.toStep) hn hP2, h2⟩
theorem LRes.pre {E2 : Env} {m2 : Mem} (g : Grow (fun b => okW wr b = true) E m w E2 m2 w) (h : LRes P I p E2 m2 w wr a o k Q) : LRes P I p E m w wr a o k Q := fun K hK => h K (fun av v E' m' w' h1 h2 h3 h4 => hK av v E' m' w' h1 (g.trans h2 (fun _ _ h => h)) h3 h4)
theorem l_buildSlice {t e : TypeId} {es n : Nat} {ps : Array (Nat × Operand)} {z : List C} {l : List (Nat × Opd)} (hI : I = ints) (hop : o.op = .buildSlice t n ps) (ht : P.underlying t = some (.slice e)) (hs : size? P e = some es) (hz : zero P e = some z) (hl : compParts ps.toList = some l)
  (h0 : 0 < es) (hsm : n * es ≤ 2 ^ 24) (hA : At E m w ts a) (h : Holds P I p (evOp I er wr (.buildSlice es z n l) ts m k)) : LRes P I p E m w wr a o k Q := by
 obtain ⟨vs, hP, h⟩ := compParts_build hl hA h
 obtain ⟨vs2, E2, m2, hA2, g2, hP2, h⟩ := frzP_inv (Wt := fun b => okW wr b = true) hI hA hP h
 exact LRes.pre g2 (buildSlice_core hop ht hs hz hP2 h0 hsm hA2 h)
theorem l_store {t : TypeId} {X Y : Operand} {x y : Opd} {n : Nat} (hI : I = ints) (hop : o.op = .store t X Y) (hsz : size? P t = some n) (ho : opd X = some x) (ho' : opd Y = some y) (hA : At E m w ts a) (h9 : Holds P I p (evOp I er wr (.store n x y) ts m k)) : LRes P I p E m w wr a o k Q := by
 obtain ⟨c, hc, h8⟩ := evC_inv ho hA h9
 clear h9
 obtain ⟨v, hv, hn, h⟩ := evV_inv ho' hA h8
 clear h8
 cases c with
 | ptr b i es j =>
  simp only at h
  split at h
  ·rename_i hW
   split at h
   ·obtain ⟨v2, E2, m2, hA2, g2, hv2, hn2, h⟩ := frzV_inv (Wt := fun b => okW wr b = true) hI hA hv hn h
    exact LRes.pre g2 (stq_sim hI hop hsz hA2 (hc.imp id (fun h => h.step g2.toStep)) hv2 hn2 hW h)
   ·exact stq_sim hI hop hsz hA hc hv hn hW h
  ·exact (holds_fail h).elim
 | _ => exact (holds_fail h).elim
/-! ### Maps -/
theorem l_makeMap {t : TypeId} {ag : Option Nat} (hop : o.op = .makeMap t none) (hA : At E m w ts a) (h : Holds P I p (evOp I er wr (.makeMap ag) ts m k)) : LRes P I p E m w wr a o k Q := by
 intro K hK
 have hg := add_grow (Wt := fun b => okW wr b = true) (w' := w.alloc (.map #[] 0)) hA.sat (blk := .mp ag []) (r := some (w.heap.size, 0)) (by simp) rfl rfl rfl (stays_below (fun k hk => heap_alloc_old w _ hk)) (fun k hk => heap_alloc_old w _ hk) (fun a_ base e => by cases e; exact Nat.le_refl _)
  (fun _ => .inr ⟨w.heap.size, 0, rfl, fun j hj => by simp [Blk.rows] at hj, by simp, fun i row hi => by simp [Blk.rows] at hi⟩)
  (fun ag' l e => by cases e; exact ⟨_, rfl, ⟨⟨#[], 0, heap_alloc_new w _, rfl, fun i row h => by simp at h, fun i j e e' h => by simp at h⟩⟩⟩)
 have hrun : (execOp a.eval o).run P w = .ok (.value (.map (some w.heap.size))) (w.alloc (.map #[] 0)) := by
  simp [execOp, hop, Instr.makeMap]
 unfold Oper.wp
 rw [hrun]
 exact hK _ _ _ _ _ h hg.1 hg.2 (.inr ⟨by simp, w.heap.size, 0, if_pos rfl, rfl⟩)
theorem mapOf_inv {ag : Option Nat} {c : C} {kd : IntKind} {k : Nat → List (List G) → Tree} (hs : Sat E m w) {u : Value} (hc : c = .any ∨ CRep E m w c u) (h : Holds P I p (mapOf ag c kd m k)) :
  kd = .i64 ∧ ∃ b l a_, c = .map b ∧ m[b]? = some (.mp ag l) ∧ E.ρ b = some (a_, 0) ∧ u = .map (some a_) ∧ MapAt w E.F ag l a_ ∧ Holds P I p (k b l) := by
 unfold mapOf at h
 split at h
 ·rename_i b
  split at h
  ·rename_i ag' l hm
   split at h
   ·rename_i he
    obtain rfl : ag = ag' := by simpa using he
    rcases hc with hc | ⟨h1, a_, base, h2, h3⟩
    ·cases hc
    ·obtain ⟨a', e, _, hat⟩ := hs.maps b ag l hm
     rw [e] at h2
     cases h2
     exact ⟨rfl, b, l, a_, rfl, hm, e, h3, hat, h⟩
   ·exact (holds_fail h).elim
  ·exact (holds_fail h).elim
 ·exact (holds_fail h).elim
/-! ### Keys -/
theorem zNat_inj {a b : Int} (h : zNat a = zNat b) : a = b := by
 unfold zNat at h
 split at h <;> split at h <;> omega
theorem pow_odd : ∀ {x x' y y' : Nat}, 2 ^ x * (2 * y + 1) = 2 ^ x' * (2 * y' + 1) → x = x' ∧ y = y'
 | 0, 0, y, y', h => by simp at h; exact ⟨rfl, by omega⟩
 | 0, x + 1, y, y', h => by
  rw [Nat.pow_succ, Nat.mul_comm (2 ^ x) 2, Nat.mul_assoc] at h
  generalize 2 ^ x * (2 * y' + 1) = q at h
  omega
 | x + 1, 0, y, y', h => by
  rw [Nat.pow_succ, Nat.mul_comm (2 ^ x) 2, Nat.mul_assoc] at h
  generalize 2 ^ x * (2 * y + 1) = q at h
  omega
 | x + 1, x' + 1, y, y', h => by
  rw [Nat.pow_succ, Nat.pow_succ, Nat.mul_comm (2 ^ x) 2, Nat.mul_comm (2 ^ x') 2, Nat.mul_assoc, Nat.mul_assoc] at h
  obtain ⟨h1, h2⟩ := pow_odd (x := x) (x' := x') (y := y) (y' := y') (by omega)
  exact ⟨by omega, h2⟩
theorem pairZ_inj {a b c d : Int} (h : pairZ a b = pairZ c d) : a = c ∧ b = d := by
 unfold pairZ at h
 obtain ⟨h1, h2⟩ := pow_odd (Int.ofNat_inj.1 h)
 exact ⟨zNat_inj h1, zNat_inj h2⟩
theorem kvIs_int {ag : Option Nat} (hag : ag ≠ some 0) {z : Int} {v : Value} : kvIs ag z v ↔ v = .int .i64 z := by
 unfold kvIs
 split
 ·exact absurd rfl hag
 ·exact Iff.rfl
theorem kvIs_fun {ag : Option Nat} {z : Int} {v v' : Value} (h : kvIs ag z v) (h' : kvIs ag z v') : v = v' := by
 by_cases hag : ag = some 0
 ·subst hag
  obtain ⟨a, b, h1, rfl⟩ := h
  obtain ⟨c, d, h2, rfl⟩ := h'
  obtain ⟨rfl, rfl⟩ := pairZ_inj (h1.symm.trans h2)
  rfl
 ·rw [(kvIs_int hag).1 h, (kvIs_int hag).1 h']
theorem kvIs_inj {ag : Option Nat} {z z' : Int} {v : Value} (h : kvIs ag z v) (h' : kvIs ag z' v) : z = z' := by
 by_cases hag : ag = some 0
 ·subst hag
  obtain ⟨a, b, rfl, rfl⟩ := h
  obtain ⟨c, d, rfl, h2⟩ := h'
  simp at h2
  rw [h2.1, h2.2]
 ·have h1 := (kvIs_int hag).1 h
  have h2 := (kvIs_int hag).1 h'
  rw [h1] at h2
  simpa using h2
/-- A map's keys, by their type. -/
def keyTy (P : Program) (ag : Option Nat) (kt : TypeId) : Prop := match ag with
 | some 0 => ∃ e i, P.underlying kt = some (.array 2 e) ∧ P.underlying e = some (.int .i64) ∧ P.info? e = some i ∧ P.cellsOf e = 1
 | _ => P.underlying kt = some (.int .i64)
theorem keyTy_int {ag : Option Nat} (hag : ag ≠ some 0) {kt : TypeId} (h : keyTy P ag kt) : P.underlying kt = some (.int .i64) := by
 unfold keyTy at h
 split at h
 ·exact absurd rfl hag
 ·exact h
theorem run_eq2 {kt e : TypeId} {i : TypeInfo} (hu : P.underlying kt = some (.array 2 e)) (he : P.underlying e = some (.int .i64)) (hi : P.info? e = some i) (hc : P.cellsOf e = 1) (a b c d : Int) (w : World) :
  (Op.equal kt (.agg #[.int .i64 a, .int .i64 b]) (.agg #[.int .i64 c, .int .i64 d])).run P w = .ok (a == c && b == d) w := by
 have hp : P.plainKey e = true := by simp [Program.plainKey, he]
 unfold Op.equal
 rw [show Op.maxDepth = 9999 + 1 from rfl, run_equalIn_array w 9999 _ _ hu hi, hc]
 have h0 : ∀ x y : Int, (part e #[.int .i64 x, .int .i64 y] 0).run P w = .ok (.int .i64 x) w := fun x y => run_part_plain w hp rfl
 have h1 : ∀ x y : Int, (part e #[.int .i64 x, .int .i64 y] 1).run P w = .ok (.int .i64 y) w := fun x y => run_part_plain w hp rfl
 have h2 : ∀ (n : Nat) (x y : Int), (Op.equalIn (n + 1) e (.int .i64 x) (.int .i64 y)).run P w = .ok (x == y) w := fun n x y => by simp [Op.equalIn, run_underlying he]
 have h2 : ∀ x y : Int, (Op.equalIn 9999 e (.int .i64 x) (.int .i64 y)).run P w = .ok (x == y) w := h2 9998
 show (Op.eqItems 9999 e 1 _ _ [0, 1]).run P w = _
 cases hq : (a == c) <;> cases hr : (b == d) <;> simp [Op.eqItems, h0, h1, h2, hq, hr, Result.andThen]
theorem run_checkK {ag : Option Nat} {kt : TypeId} (ht : keyTy P ag kt) {z : Int} {v : Value} (hv : kvIs ag z v) (em : Bool) (w : World) : (Instr.checkKey em 10000 kt v).run P w = .ok () w := by
 by_cases hag : ag = some 0
 ·subst hag
  obtain ⟨e, i, h1, h2, h3, h4⟩ := ht
  obtain ⟨a, b, rfl, rfl⟩ := hv
  have hp : P.plainKey e = true := by simp [Program.plainKey, h2]
  have h5 : (part e #[.int .i64 a, .int .i64 b] 0).run P w = .ok (.int .i64 a) w := run_part_plain w hp rfl
  have h6 : (part e #[.int .i64 a, .int .i64 b] 1).run P w = .ok (.int .i64 b) w := run_part_plain w hp rfl
  have h7 : ∀ x : Int, (Instr.checkKey em 9999 e (.int .i64 x)).run P w = .ok () w := fun x => MapKept.run_checkKey (n := 9998) h2 (show MapKept.IsKey (.int .i64) (.int .i64 x) from rfl) em
  have h8 : i.size = 1 := by simpa [Program.cellsOf, h3] using h4
  have h9 : (sizeOf e).run P w = .ok 1 w := by rw [run_sizeOf w h3, h4]
  rw [show (10000 : Nat) = 9999 + 1 from rfl]
  unfold Instr.checkKey
  simp [run_underlying h1, Std.Legacy.Range.forIn_eq_forIn_range', Std.Legacy.Range.size, List.range', h9, h5, h6, h7, Result.andThen]
 ·rw [(kvIs_int hag).1 hv]
  exact MapKept.run_checkKey (n := 9999) (keyTy_int hag ht) (show MapKept.IsKey (.int .i64) (.int .i64 z) from rfl) em
theorem run_staysK {ag : Option Nat} {z : Int} {v : Value} (hv : kvIs ag z v) (w : World) : (Instr.keyThatStays v v).run P w = .ok v w := by
 by_cases hag : ag = some 0
 ·subst hag
  obtain ⟨a, b, rfl, rfl⟩ := hv
  have : Instr.sameBits 10000 (.agg #[.int .i64 a, .int .i64 b]) (.agg #[.int .i64 a, .int .i64 b]) = true := by
   rw [show (10000 : Nat) = 9999 + 1 from rfl]
   simp [Instr.sameBits]
  simp [Instr.keyThatStays, this]
 ·rw [(kvIs_int hag).1 hv]
  exact MapKept.run_keyThatStays (show MapKept.IsKey (.int .i64) (.int .i64 z) from rfl)
def KeyAt (ag : Option Nat) (l : List (List G)) (es : List MapEntry) : Prop := es.length = l.length ∧ ∀ (i : Nat) (row : List G), l[i]? = some row → ∃ (z : Z) (gs : List G) (e : MapEntry), row = .int .i64 z :: gs ∧ es[i]? = some e ∧ kvIs ag z.val e.key
/-- Looked for one by one. -/
theorem look_spec {ag : Option Nat} {z : Int} {v : Value} (hv : kvIs ag z v) (R : List MapEntry → Nat → Option (Nat × Value) → Prop) (hnil : ∀ n, R [] n none) (hyes : ∀ e es n, e.key = v → R (e :: es) n (some (n, e.val)))
  (hno : ∀ z' e es n r, kvIs ag z' e.key → z' ≠ z → R es (n + 1) r → R (e :: es) n r) : ∀ (l : List (List G)) (es : List MapEntry) (n : Nat), KeyAt ag l es →
  (R es n none ∧ mfind l z = none ∧ (∀ r, mset l z r = l ++ [r]) ∧ ∀ e ∈ es, e.key ≠ v) ∨
  ∃ (i : Nat) (row : List G) (e : MapEntry), R es n (some (n + i, e.val)) ∧ mfind l z = some row ∧ l[i]? = some row ∧ es[i]? = some e ∧ e.key = v ∧ ∀ r, mset l z r = l.set i r
 | [], es, n, h => by
  obtain rfl : es = [] := List.eq_nil_of_length_eq_zero h.1
  exact .inl ⟨hnil n, rfl, fun _ => rfl, by simp⟩
 | row :: l, [], n, h => by simp [KeyAt] at h
 | row :: l, e :: es, n, h => by
  obtain ⟨hl, hk⟩ := h
  obtain ⟨z0, gs, e0, rfl, h2, h3⟩ := hk 0 row rfl
  simp at h2
  subst h2
  by_cases hz : z = z0.val
  ·have he : e.key = v := kvIs_fun h3 (hz ▸ hv)
   exact .inr ⟨0, _, e, hyes e es n he, by simp [mfind, rowKey, hz], rfl, rfl, he, fun r => by simp [mset, rowKey, hz]⟩
  ·have hz' : ¬ z0.val = z := fun e => hz e.symm
   rcases look_spec hv R hnil hyes hno l es (n + 1) ⟨by simpa using hl, fun i row hi => by simpa using hk (i + 1) row (by simpa using hi)⟩ with ⟨g1, g2, g3, g4⟩ | ⟨i, row, e', g1, g2, g3, g4, g5, g6⟩
   ·refine .inl ⟨hno _ e es n none h3 hz' g1, by simpa [mfind, rowKey, hz'] using g2, fun r => by simp [mset, rowKey, hz', g3], ?_⟩
    intro e' he'
    rcases List.mem_cons.1 he' with rfl | he'
    ·intro h9
     rw [h9] at h3
     exact hz (kvIs_inj hv h3)
    ·exact g4 e' he'
   ·refine .inr ⟨i + 1, row, e', ?_, by simpa [mfind, rowKey, hz'] using g2, by simpa using g3, by simpa using g4, g5, fun r => by simp [mset, rowKey, hz', g6]⟩
    have := hno _ e es n _ h3 hz' g1
    rw [show n + (i + 1) = n + 1 + i by omega]
    exact this
theorem find_spec {ag : Option Nat} {kt : TypeId} (ht : keyTy P ag kt) {z : Int} {v : Value} (hv : kvIs ag z v) (l : List (List G)) (es : List MapEntry) (h : KeyAt ag l es) :
  ((∀ w, (Instr.findKey kt v es).run P w = .ok none w) ∧ mfind l z = none ∧ (∀ r, mset l z r = l ++ [r]) ∧ ∀ e ∈ es, e.key ≠ v) ∨
  ∃ (i : Nat) (row : List G) (e : MapEntry), (∀ w, (Instr.findKey kt v es).run P w = .ok (some (i, e.val)) w) ∧ mfind l z = some row ∧ l[i]? = some row ∧ es[i]? = some e ∧ e.key = v ∧ ∀ r, mset l z r = l.set i r := by
 by_cases hag : ag = some 0
 ·subst hag
  obtain ⟨e, i, h1, h2, h3, h4⟩ := ht
  obtain ⟨a, b, hz, hv2⟩ := id hv
  have heq := run_eq2 (P := P) h1 h2 h3 h4 a b
  have hfk : ∀ (es : List MapEntry) (r : Option (Nat × Value)), (∀ w, (Instr.findAsking kt v es 0).run P w = .ok r w) → ∀ w, (Instr.findKey kt v es).run P w = .ok r w := fun es r h w => by
   cases es with
   | nil =>
    have h9 := h w
    simp [Instr.findAsking] at h9
    simp [Instr.findKey, run_underlying h1, Result.andThen, Instr.findNow, ← h9]
   | cons e es =>
    have h9 := h w
    simpa [Instr.findKey, run_underlying h1, Result.andThen, Instr.findNow, Instr.sameNow] using h9
  rcases look_spec hv (fun es n r => ∀ w, (Instr.findAsking kt v es n).run P w = .ok r w) (fun n w => by simp [Instr.findAsking]) (fun e es n he w => by
    have := heq a b w
    rw [← hv2] at this
    simp only [beq_self_eq_true, Bool.and_self] at this
    simp [Instr.findAsking, he, this, Result.andThen]) (fun z' e es n r hk hne hr w => by
    obtain ⟨c, d, rfl, hk⟩ := hk
    have h9 := heq c d w
    have : (a == c && b == d) = false := by
     cases hq : (a == c && b == d) with
     | false => rfl
     | true =>
      simp at hq
      exact absurd (by rw [hz, hq.1, hq.2]) hne
    rw [this, ← hv2, ← hk] at h9
    simp [Instr.findAsking, h9, Result.andThen, hr w]) l es 0 h with ⟨g1, g2, g3, g4⟩ | ⟨i, row, e', g1, g2, g3, g4, g5, g6⟩
  ·exact .inl ⟨hfk _ _ g1, g2, g3, g4⟩
  ·exact .inr ⟨i, row, e', hfk _ _ (by simpa using g1), g2, g3, g4, g5, g6⟩
 ·have ht := keyTy_int hag ht
  have hv2 := (kvIs_int hag).1 hv
  rcases look_spec hv (fun es n r => Instr.findNow (.int .i64) v es n = some r) (fun n => rfl) (fun e es n he => by
    subst hv2
    simp [Instr.findNow, he, Instr.sameNow]) (fun z' e es n r hk hne hr => by
    have hk := (kvIs_int hag).1 hk
    subst hv2
    have : (z == z') = false := by simpa using fun e => hne e.symm
    simp [Instr.findNow, hk, Instr.sameNow, this, hr]) l es 0 h with ⟨g1, g2, g3, g4⟩ | ⟨i, row, e', g1, g2, g3, g4, g5, g6⟩
  ·exact .inl ⟨fun w => MapKept.run_findKey ht g1, g2, g3, g4⟩
  ·exact .inr ⟨i, row, e', fun w => MapKept.run_findKey ht (by simpa using g1), g2, g3, g4, g5, g6⟩
theorem evK_inv {ag : Option Nat} {Y : Operand} {y : Opd} {k : IntKind → Z → Tree} (hI : I = ints) (ho : opd Y = some y) (hA : At E m w ts a) (h : Holds P I p (evK I ag ts y k)) : ∃ kd z, (kd = .i64 → kvIs ag z.val (a.eval Y)) ∧ Holds P I p (k kd z) := by
 unfold evK at h
 split at h
 ·split at h
  ·rename_i za zb he
   have hr := opd_rep ho hA
   rw [he] at hr
   obtain ⟨cs, h1, h2, h3⟩ := hr
   obtain ⟨u, h4, h5⟩ := h3 0 _ rfl
   obtain ⟨u', h6, h7⟩ := h3 1 _ rfl
   refine ⟨_, _, fun _ => ⟨za.val, zb.val, ?_, ?_⟩, h⟩
   ·show I.pair za.val zb.val = _
    rw [hI]
    rfl
   ·rw [h1]
    cases h5
    cases h7
    congr 1
    apply Array.ext_getElem?
    intro i
    match i with
    | 0 => exact h4
    | 1 => exact h6
    | i + 2 =>
     rw [Array.getElem?_eq_none (by rw [h2]; simp), Array.getElem?_eq_none (by simp)]
  ·exact (holds_fail h).elim
 ·rename_i hag
  obtain ⟨kd, z, hz, h⟩ := evZ_inv ho hA h
  refine ⟨kd, z, fun e => ?_, h⟩
  subst e
  exact (kvIs_int (fun e => hag e)).2 hz
theorem vag_id {ag : Option Nat} (h : ag ≠ some 0) : vag ag = ag := by
 unfold vag
 split
 ·exact absurd rfl h
 ·rfl
theorem mapTyI_inv {t : TypeId} {ag : Option Nat} {z : List C} (h : mapTyI P t = some (ag, z)) : mapTy P t = some (ag, z) ∧ ag ≠ some 0 := by
 unfold mapTyI at h
 split at h
 ·cases h
 ·rename_i h1
  refine ⟨h, fun e => ?_⟩
  subst e
  exact h1 _ h
/-- What a key's row says of its entry. -/
def ValAt (w : World) (F : Nat → Prop) (ag : Option Nat) (gs : List G) (v : Value) : Prop :=
 ∃ us : List Value, us.length = gs.length ∧ (∀ (j : Nat) (g : G), gs[j]? = some g → ∃ u, us[j]? = some u ∧ GRep F w g u) ∧ (match ag with | none => us = [v] | some n => v = .agg us.toArray ∧ us.length = n)
theorem val_seg {ag : Option Nat} {gs : List G} {v : Value} {x : G} {k : V1 → Tree} (hv : ValAt w E.F ag gs v) (h : Holds P I p (seg ((x :: gs).map C.g) 1 ag k)) : ∃ v1, Holds P I p (k v1) ∧ V1Rep E m w v1 v := by
 obtain ⟨us, h1, h2, h3⟩ := hv
 rcases seg_inv h with ⟨rfl, c, hj, h⟩ | ⟨n, rfl, hn, h⟩
 ·subst h3
  rw [List.getElem?_map] at hj
  obtain ⟨g, hg, rfl⟩ := Option.map_eq_some_iff.1 hj
  obtain ⟨u, q1, q2⟩ := h2 0 g (by simpa using hg)
  simp at q1
  subst q1
  exact ⟨_, h, .inr q2⟩
 ·obtain ⟨rfl, hn'⟩ := h3
  refine ⟨_, h, us.toArray, rfl, by simp at hn ⊢; omega, fun i y hi => ?_⟩
  rw [List.getElem?_take] at hi
  split at hi
  ·rw [List.getElem?_drop, List.getElem?_map] at hi
   obtain ⟨g, hg, rfl⟩ := Option.map_eq_some_iff.1 hi
   obtain ⟨u, q1, q2⟩ := h2 i g (by rw [Nat.add_comm] at hg; simpa using hg)
   exact ⟨u, by simpa using q1, q2⟩
  ·cases hi
theorem ValAt.sy {F : Nat → Prop} {ag : Option Nat} {gs : List G} {v : Value} (h : ValAt w F ag gs v) : ValAt w F ag (gs.map G.sy) v := by
 obtain ⟨us, h1, h2, h3⟩ := h
 refine ⟨us, by simpa using h1, fun j g hj => ?_, h3⟩
 rw [List.getElem?_map] at hj
 obtain ⟨g, hg, rfl⟩ := Option.map_eq_some_iff.1 hj
 obtain ⟨u, q1, q2⟩ := h2 j g hg
 exact ⟨u, q1, G_sy q2⟩
theorem csts_rep : ∀ (l : List Value) (z : List C), csts l = some z → l.length = z.length ∧ ∀ (i : Nat) (x : C), z[i]? = some x → ∃ u, l[i]? = some u ∧ CRep E m w x u
 | [], z, hz => by cases hz; exact ⟨rfl, fun i x hi => by simp at hi⟩
 | v :: l, z, hz => by
  simp only [csts] at hz
  split at hz
  ·rename_i x l' hx hl
   cases hz
   obtain ⟨h1, h2⟩ := csts_rep l l' hl
   refine ⟨by simp [h1], fun i y hi => ?_⟩
   cases i with
   | zero => simp at hi; subst hi; exact ⟨v, rfl, zcst_rep hx E m w⟩
   | succ i => simpa using h2 i y (by simpa using hi)
  ·cases hz
/-- A map's type. -/
theorem mapTy_spec {t : TypeId} {ag : Option Nat} {z : List C} (h : mapTy P t = some (ag, z)) : ∃ kt et v, P.underlying t = some (.map kt et) ∧ keyTy P ag kt ∧ (∀ w, (zeroValue et).run P w = .ok v w) ∧
  (∀ (E : Env) (m : Mem) (w : World) (k : V1 → Tree), Holds P I p (seg z 0 (vag ag) k) → ∃ v1, Holds P I p (k v1) ∧ V1Rep E m w v1 v) ∧ ∀ (F : Nat → Prop) (w : World) (gs : List G), grounds z = some gs → ValAt w F (vag ag) gs v := by
 unfold mapTy at h
 split at h
 ·rename_i kt et ht
  have zv : ∀ {v : Value}, (P.info? et).bind (·.zero) = some v → ∀ w, (zeroValue et).run P w = .ok v w := fun {v} hz w => by
   cases hi : P.info? et with
   | none => simp [hi] at hz
   | some i => simp [hi] at hz; simp [zeroValue, typeInfo, hi, hz]
  split at h
  ·rename_i v hk ha hz
   split at h
   ·rename_i c hc
    cases h
    refine ⟨kt, et, v, ht, hk, zv hz, fun E m w k hh => ?_, fun F w gs hg => ?_⟩
    ·rcases seg_inv hh with ⟨_, c', hj, hh⟩ | ⟨n, e, _⟩
     ·simp at hj
      subst hj
      exact ⟨_, hh, .inr (cst_rep hc E m w)⟩
     ·cases e
    ·have := cst_rep hc ⟨F, fun _ => False, fun _ => none⟩ [] w
     cases c with
     | g x =>
      simp [grounds] at hg
      subst hg
      refine ⟨[v], rfl, fun j g hj => ?_, rfl⟩
      cases j with
      | zero => simp at hj; subst hj; exact ⟨v, rfl, this⟩
      | succ j => simp at hj
     | _ => simp [grounds] at hg
   ·cases h
  ·rename_i n cs hk ha hz
   split at h
   ·rename_i z' hc hn
    cases h
    have hn' : cs.size = n + 1 := by simpa using hn
    refine ⟨kt, et, .agg cs, ht, hk, zv hz, fun E m w k hh => ?_, fun F w gs hg => ?_⟩
    ·obtain ⟨h1, h2⟩ := csts_rep (E := E) (m := m) (w := w) _ _ hc
     rcases seg_inv hh with ⟨e, _⟩ | ⟨n', e, hn2, hh⟩
     ·cases e
     ·cases e
      refine ⟨_, hh, cs, rfl, by simp at h1 hn2 ⊢; omega, fun i y hi => ?_⟩
      rw [List.getElem?_take] at hi
      split at hi
      ·obtain ⟨u, q1, q2⟩ := h2 i y (by simpa using hi)
       exact ⟨u, by simpa using q1, q2⟩
      ·cases hi
    ·obtain ⟨h1, h2⟩ := csts_rep (E := ⟨F, fun _ => False, fun _ => none⟩) (m := []) (w := w) _ _ hc
     have hz' := grounds_map hg
     refine ⟨cs.toList, by rw [h1, ← hz']; simp, fun j g hj => ?_, by simp, by simpa using hn'⟩
     obtain ⟨u, q1, q2⟩ := h2 j (.g g) (by rw [← hz']; simp [hj])
     exact ⟨u, q1, q2⟩
   ·cases h
  ·rename_i e v hk ha hz
   split at h
   ·rename_i i c h1 h2 h3 hc
    cases h
    refine ⟨kt, et, v, ht, ⟨e, i, hk, h1, h2, by simpa using h3⟩, zv hz, fun E m w k hh => ?_, fun F w gs hg => ?_⟩
    ·rcases seg_inv hh with ⟨_, c', hj, hh⟩ | ⟨n, e, _⟩
     ·simp at hj
      subst hj
      exact ⟨_, hh, .inr (cst_rep hc E m w)⟩
     ·cases e
    ·have := cst_rep hc ⟨F, fun _ => False, fun _ => none⟩ [] w
     cases c with
     | g x =>
      simp [grounds] at hg
      subst hg
      refine ⟨[v], rfl, fun j g hj => ?_, rfl⟩
      cases j with
      | zero => simp at hj; subst hj; exact ⟨v, rfl, this⟩
      | succ j => simp at hj
     | _ => simp [grounds] at hg
   ·cases h
  ·cases h
 ·cases h
theorem fits_rep {ag : Option Nat} {v : V1} {gs : List G} {u : Value} (hf : fits ag v = true) (hg : grounds v.cells = some gs) (hv : V1Rep E m w v u) : ValAt w E.F ag gs u := by
 have hz := grounds_map hg
 unfold fits at hf
 split at hf
 ·rename_i c
  rcases hv with rfl | hv
  ·simp [V1.cells, grounds] at hg
  ·cases c with
   | g x =>
    simp [V1.cells, grounds] at hg
    subst hg
    refine ⟨[u], rfl, fun j g hj => ?_, rfl⟩
    cases j with
    | zero => simp at hj; subst hj; exact ⟨u, rfl, hv⟩
    | succ j => simp at hj
   | _ => simp [V1.cells, grounds] at hg
 ·rename_i n l
  obtain ⟨cs, rfl, h2, h3⟩ := hv
  have hz' : gs.map C.g = l := hz
  have hl : l.length = n := by simpa using hf
  refine ⟨cs.toList, by rw [← hz'] at h2; simpa using h2, fun j g hj => ?_, by simp, by simpa [h2] using hl⟩
  obtain ⟨u, q1, q2⟩ := h3 j (.g g) (by rw [← hz']; simp [hj])
  exact ⟨u, by simpa using q1, q2⟩
 ·cases hf
/-- One map is written. -/
theorem map_grow (hs : Sat E m w) {b a_ : Nat} {ag : Option Nat} {l l' : List (List G)} (hb : m[b]? = some (.mp ag l)) (hρ : E.ρ b = some (a_, 0)) (hW : Wt b) {es es' : Array MapEntry} {c c' : Nat} (hh : w.heap[a_]? = some (.map es c))
  (hkeep : ∀ (i : Nat) (e : MapEntry), es[i]? = some e → ∃ e', es'[i]? = some e' ∧ e'.key = e.key ∧ e'.born = e.born)
  (hat : (∀ k, E.F k → ({ w with heap := w.heap.setIfInBounds a_ (.map es' c') } : World).heap[k]? = w.heap[k]?) → MapAt { w with heap := w.heap.setIfInBounds a_ (.map es' c') } E.F ag l' a_) :
  Grow Wt E m w E (m.set b (.mp ag l')) { w with heap := w.heap.setIfInBounds a_ (.map es' c') } ∧ Sat E (m.set b (.mp ag l')) { w with heap := w.heap.setIfInBounds a_ (.map es' c') } := by
 have hset := MapKept.heap_set (w := w) (o' := .map es' c') hh
 have hdis := hs.dis b _ a_ 0 hb trivial hρ
 refine write_grow hs hb trivial trivial hρ hW rfl rfl rfl (by simp) (fun k hk => hset.2 k hk) ⟨fun x hx => ?_, fun q es1 c1 h1 => ?_⟩ rfl rfl (fun i row hi => by simp [Blk.rows] at hi) (fun ag1 l1 e => by cases e; exact ⟨rfl, hat (fun k hk => hset.2 k (fun e => by subst e; exact hdis.1 hk))⟩)
 ·have hne : x.block ≠ a_ := fun e => by
   rw [← e] at hh
   simp [World.cell?, hh] at hx
  have h1 := World.cell?_of_block (w := w) (w' := { w with heap := w.heap.setIfInBounds a_ (.map es' c') }) (a := x) (hset.2 _ hne)
  have h2 := World.frozen?_of_block (w := w) (w' := { w with heap := w.heap.setIfInBounds a_ (.map es' c') }) (a := x) (hset.2 _ hne)
  exact ⟨by rw [h1]; exact hx, h2⟩
 ·by_cases hq : q = a_
  ·subst hq
   rw [hh] at h1
   cases h1
   exact ⟨es', c', hset.1, hkeep⟩
  ·exact ⟨es1, c1, (hset.2 q hq).trans h1, fun i e h => ⟨e, h, rfl, rfl⟩⟩
theorem MapAt.keys {F : Nat → Prop} {ag : Option Nat} {l : List (List G)} {a_ : Nat} (h : MapAt w F ag l a_) : ∃ (es : Array MapEntry) (c : Nat), w.heap[a_]? = some (.map es c) ∧ KeyAt ag l es.toList ∧ (∀ (i : Nat) (e : MapEntry), es[i]? = some e → e.born < c) ∧
  (∀ (i j : Nat) (e e' : MapEntry), es[i]? = some e → es[j]? = some e' → e.born = e'.born ∨ e.key = e'.key → i = j) ∧
  ∀ (i : Nat) (row : List G) (e : MapEntry), l[i]? = some row → es[i]? = some e → ∃ (z : Z) (gs : List G), row = .int .i64 z :: gs ∧ kvIs ag z.val e.key ∧ ValAt w F (vag ag) gs e.val := by
 obtain ⟨es, c, h1, h2, h3, h4⟩ := h.ex
 refine ⟨es, c, h1, ⟨by simpa using h2, fun i row hi => ?_⟩, fun i e he => ?_, h4, fun i row e hi he => ?_⟩
 ·obtain ⟨z, gs, e, us, g1, g2, g3, g4, g5, g6, g7⟩ := h3 i row hi
  exact ⟨z, gs, e, g1, by simpa using g2, g3⟩
 ·have hlt : i < l.length := by rw [← h2]; exact (Array.getElem?_eq_some_iff.1 he).1
  obtain ⟨z, gs, e', us, g1, g2, g3, g4, g5, g6, g7⟩ := h3 i l[i] (List.getElem?_eq_getElem hlt)
  rw [he] at g2
  cases g2
  exact g4
 ·obtain ⟨z, gs, e', us, g1, g2, g3, g4, g5, g6, g7⟩ := h3 i row hi
  rw [he] at g2
  cases g2
  exact ⟨z, gs, g1, g3, us, g5, g6, g7⟩
/-- A row is another one. -/
theorem map_set {F : Nat → Prop} {ag : Option Nat} {l : List (List G)} {a_ i : Nat} {es : Array MapEntry} {c : Nat} {e : MapEntry} {z : Z} {gs : List G} {kv v : Value} (hkv : kvIs ag z.val kv) (h : MapAt w F ag l a_) (hh : w.heap[a_]? = some (.map es c)) (he : es[i]? = some e) (hk : e.key = kv)
  (hF : ∀ k, F k → ({ w with heap := w.heap.setIfInBounds a_ (.map (es.modify i fun e => { e with key := kv, val := v }) c) } : World).heap[k]? = w.heap[k]?) (hv : ValAt w F (vag ag) gs v) :
  MapAt { w with heap := w.heap.setIfInBounds a_ (.map (es.modify i fun e => { e with key := kv, val := v }) c) } F ag (l.set i (.int .i64 z :: gs)) a_ := by
 obtain ⟨es', c', h1, h2, h3, h4⟩ := h.ex
 rw [hh] at h1
 cases h1
 have hlt : i < l.length := by rw [← h2]; exact (Array.getElem?_eq_some_iff.1 he).1
 have back : ∀ (j : Nat) (e1 : MapEntry), (es.modify i fun e => { e with key := kv, val := v })[j]? = some e1 → ∃ e0, es[j]? = some e0 ∧ e1.key = e0.key ∧ e1.born = e0.born := fun j e1 h => by
  rw [Array.getElem?_modify] at h
  by_cases hij : i = j
  ·subst hij
   simp [he] at h
   subst h
   exact ⟨e, he, hk.symm, rfl⟩
  ·simp only [hij, if_false] at h
   exact ⟨e1, h, rfl, rfl⟩
 refine ⟨_, c, (MapKept.heap_set hh).1, by simp [h2], fun j row hj => ?_, fun p q e1 e2 hp hq hb => ?_⟩
 ·rw [List.getElem?_set] at hj
  by_cases hij : i = j
  ·subst hij
   simp only [hlt, if_true, Option.some.injEq] at hj
   subst hj
   obtain ⟨us, u1, u2, u3⟩ := hv
   obtain ⟨z', gs', e', us', g1, g2, g3, g4, g5⟩ := h3 i l[i] (List.getElem?_eq_getElem hlt)
   rw [he] at g2
   cases g2
   refine ⟨z, gs, { e with key := kv, val := v }, us, rfl, by simp [Array.getElem?_modify, he], hkv, g4, u1, fun j g hj => ?_, u3⟩
   obtain ⟨u, q1, q2⟩ := u2 j g hj
   exact ⟨u, q1, q2.step (fun _ h => h) hF⟩
  ·simp only [hij, if_false] at hj
   obtain ⟨z', gs', e', us', g1, g2, g3, g4, g5, g6, g7⟩ := h3 j row hj
   refine ⟨z', gs', e', us', g1, by rw [Array.getElem?_modify]; simp [hij, g2], g3, g4, g5, fun j g hj => ?_, g7⟩
   obtain ⟨u, q1, q2⟩ := g6 j g hj
   exact ⟨u, q1, q2.step (fun _ h => h) hF⟩
 ·obtain ⟨e1', p1, p2, p3⟩ := back p e1 hp
  obtain ⟨e2', q1, q2, q3⟩ := back q e2 hq
  exact h4 p q e1' e2' p1 q1 (by rw [← p2, ← q2, ← p3, ← q3]; exact hb)
/-- A row more. -/
theorem map_push {F : Nat → Prop} {ag : Option Nat} {l : List (List G)} {a_ : Nat} {es : Array MapEntry} {c : Nat} {z : Z} {gs : List G} {kv v : Value} (hkv : kvIs ag z.val kv) (h : MapAt w F ag l a_) (hh : w.heap[a_]? = some (.map es c)) (hn : ∀ e ∈ es.toList, e.key ≠ kv)
  (hF : ∀ k, F k → ({ w with heap := w.heap.setIfInBounds a_ (.map (es.push { key := kv, val := v, born := c }) (c + 1)) } : World).heap[k]? = w.heap[k]?) (hv : ValAt w F (vag ag) gs v) :
  MapAt { w with heap := w.heap.setIfInBounds a_ (.map (es.push { key := kv, val := v, born := c }) (c + 1)) } F ag (l ++ [.int .i64 z :: gs]) a_ := by
 obtain ⟨es', c', h1, h2, h3, h4⟩ := h.ex
 rw [hh] at h1
 cases h1
 have hbo : ∀ (i : Nat) (e : MapEntry), es[i]? = some e → e.born < c := fun i e he => by
  have hlt : i < l.length := by rw [← h2]; exact (Array.getElem?_eq_some_iff.1 he).1
  obtain ⟨z', gs', e', us', g1, g2, g3, g4, g5⟩ := h3 i l[i] (List.getElem?_eq_getElem hlt)
  rw [he] at g2
  cases g2
  exact g4
 have back : ∀ (j : Nat) (e1 : MapEntry), (es.push { key := kv, val := v, born := c })[j]? = some e1 → es[j]? = some e1 ∨ (j = es.size ∧ e1 = { key := kv, val := v, born := c }) := fun j e1 h => by
  rw [Array.getElem?_push] at h
  split at h
  ·cases h; exact .inr ⟨by assumption, rfl⟩
  ·exact .inl h
 refine ⟨_, c + 1, (MapKept.heap_set hh).1, by simp [h2], fun j row hj => ?_, fun p q e1 e2 hp hq hb => ?_⟩
 ·rw [List.getElem?_append] at hj
  split at hj
  ·rename_i hlt
   obtain ⟨z', gs', e', us', g1, g2, g3, g4, g5, g6, g7⟩ := h3 j row hj
   refine ⟨z', gs', e', us', g1, by rw [Array.getElem?_push]; simp [h2, Nat.ne_of_lt hlt, g2], g3, by omega, g5, fun j g hj => ?_, g7⟩
   obtain ⟨u, q1, q2⟩ := g6 j g hj
   exact ⟨u, q1, q2.step (fun _ h => h) hF⟩
  ·have hj0 : j = l.length := by
    cases hq : j - l.length with
    | zero => omega
    | succ n => rw [hq] at hj; simp at hj
   subst hj0
   simp at hj
   subst hj
   obtain ⟨us, u1, u2, u3⟩ := hv
   refine ⟨z, gs, { key := kv, val := v, born := c }, us, rfl, by rw [← h2]; simp, hkv, by simp, u1, fun j g hj => ?_, u3⟩
   obtain ⟨u, q1, q2⟩ := u2 j g hj
   exact ⟨u, q1, q2.step (fun _ h => h) hF⟩
 ·rcases back p e1 hp with hp | ⟨rfl, rfl⟩ <;> rcases back q e2 hq with hq | ⟨rfl, rfl⟩
  ·exact h4 p q e1 e2 hp hq hb
  ·rcases hb with hb | hb
   ·have := hbo p e1 hp
    simp at hb
    omega
   ·exact absurd hb (hn e1 (List.mem_of_getElem? (by simpa using hp)))
  ·rcases hb with hb | hb
   ·have := hbo q e2 hq
    simp at hb
    omega
   ·exact absurd hb.symm (hn e2 (List.mem_of_getElem? (by simpa using hq)))
  ·rfl
theorem push_keep {es : Array MapEntry} {e0 : MapEntry} (i : Nat) (e : MapEntry) (h : es[i]? = some e) : ∃ e', (es.push e0)[i]? = some e' ∧ e'.key = e.key ∧ e'.born = e.born := by
 have hlt := (Array.getElem?_eq_some_iff.1 h).1
 exact ⟨e, by rw [Array.getElem?_push]; simp [Nat.ne_of_lt hlt, h], rfl, rfl⟩
theorem modify_keep {es : Array MapEntry} {q : Nat} {f : MapEntry → MapEntry} (hf : ∀ e, es[q]? = some e → (f e).key = e.key ∧ (f e).born = e.born) (i : Nat) (e : MapEntry) (h : es[i]? = some e) : ∃ e', (es.modify q f)[i]? = some e' ∧ e'.key = e.key ∧ e'.born = e.born := by
 by_cases hq : q = i
 ·subst hq
  exact ⟨f e, by simp [Array.getElem?_modify, h], (hf e h).1, (hf e h).2⟩
 ·exact ⟨e, by rw [Array.getElem?_modify]; simp [hq, h], rfl, rfl⟩
theorem l_lookup {t : TypeId} {ag : Option Nat} {z : List C} {ok : Bool} {X Y : Operand} {x y : Opd} (hop : o.op = .lookup t X Y ok) (ht : mapTy P t = some (ag, z)) (ho : opd X = some x) (ho' : opd Y = some y) (hI : I = ints) (hA : At E m w ts a) (h9 : Holds P I p (evOp I er wr (.lookup ok ag z x y) ts m k)) : LRes P I p E m w wr a o k Q := by
 obtain ⟨c, hc, h⟩ := evC_inv ho hA h9
 obtain ⟨kd, zk, hz, h⟩ := evK_inv hI ho' hA h
 obtain ⟨rfl, b, l, a_, rfl, hb, hρ, hX, hat, h⟩ := mapOf_inv hA.sat hc h
 have hz := hz rfl
 obtain ⟨kt, et, zv, t1, t2, t3, t4, t5⟩ := mapTy_spec (P := P) (I := I) (p := p) ht
 obtain ⟨es, cl, q1, q2, q3, q4, q5⟩ := hat.keys
 intro K hK
 unfold Oper.wp
 cases h with
 | find r hr h =>
 rcases find_spec t2 hz l es.toList q2 with ⟨g1, g2, g3, g4⟩ | ⟨i, row, e, g1, g2, g3, g4, g5, g6⟩
 ·rw [g2] at hr
  subst hr
  obtain ⟨v1, h, hv⟩ := t4 E m w _ h
  have hrun : (execOp a.eval o).run P w = .ok (.value (if ok then .tuple #[zv, .bool false] else zv)) w := by
   simp [execOp, hop, hX, Instr.lookup, run_underlying t1, MapKept.run_getObj_map q1, run_checkK t2 hz, g1, t3, Result.andThen]
  rw [hrun]
  cases ok
  ·exact hK _ _ _ _ _ h (Grow.refl _ _ _ _) hA.sat hv
  ·refine hK _ _ _ _ _ h (Grow.refl _ _ _ _) hA.sat ⟨_, rfl, rfl, fun i x hi => ?_⟩
   match i, hi with
   | 0, hi => simp at hi; subst hi; exact ⟨_, rfl, hv⟩
   | 1, hi => simp at hi; subst hi; exact ⟨_, rfl, .inr (.bool (.lit false))⟩
   | i + 2, hi => simp at hi
 ·rw [g2] at hr
  subst hr
  obtain ⟨z', gs, rfl, k2, k3⟩ := q5 i row e g3 (by simpa using g4)
  obtain ⟨v1, h, hv⟩ := val_seg (E := E) (m := m) k3 h
  have hrun : (execOp a.eval o).run P w = .ok (.value (if ok then .tuple #[e.val, .bool true] else e.val)) w := by
   simp [execOp, hop, hX, Instr.lookup, run_underlying t1, MapKept.run_getObj_map q1, run_checkK t2 hz, g1, Result.andThen]
  rw [hrun]
  cases ok
  ·exact hK _ _ _ _ _ h (Grow.refl _ _ _ _) hA.sat hv
  ·refine hK _ _ _ _ _ h (Grow.refl _ _ _ _) hA.sat ⟨_, rfl, rfl, fun i x hi => ?_⟩
   match i, hi with
   | 0, hi => simp at hi; subst hi; exact ⟨_, rfl, hv⟩
   | 1, hi => simp at hi; subst hi; exact ⟨_, rfl, .inr (.bool (.lit true))⟩
   | i + 2, hi => simp at hi
theorem l_mapUpdate {t : TypeId} {ag : Option Nat} {z : List C} {X Y V : Operand} {x y v : Opd} (hI : I = ints) (hop : o.op = .mapUpdate t X Y V) (ht : mapTy P t = some (ag, z)) (ho : opd X = some x) (ho' : opd Y = some y) (hv : opd V = some v) (hA0 : At E m w ts a) (h9 : Holds P I p (evOp I er wr (.mapUpdate ag x y v) ts m k)) : LRes P I p E m w wr a o k Q := by
 obtain ⟨c, hc0, h⟩ := evC_inv ho hA0 h9
 obtain ⟨kd, zk, hz, h⟩ := evK_inv hI ho' hA0 h
 obtain ⟨av0, hav0, hne0, h⟩ := evV_inv hv hA0 h
 obtain ⟨av, E2, m2, hA, g2, hav, hne, h⟩ := frzV_inv (Wt := fun b => okW wr b = true) hI hA0 hav0 hne0 h
 refine LRes.pre g2 ?_
 have hc := hc0.imp id (fun h => CRep.step g2.toStep h)
 obtain ⟨rfl, b, l, a_, rfl, hb, hρ, hX, hat, h⟩ := mapOf_inv hA.sat hc h
 have hz := hz rfl
 obtain ⟨kt, et, zv, t1, t2, t3, t4, t5⟩ := mapTy_spec (P := P) (I := I) (p := p) ht
 obtain ⟨es, cl, q1, q2, q3, q4, q5⟩ := hat.keys
 split at h
 ·rename_i gs hW hg hf
  have hva := (fits_rep hf hg hav).sy
  have hm : I.mset = mset := by rw [hI]; rfl
  rw [hm] at h
  intro K hK
  unfold Oper.wp
  rcases find_spec t2 hz l es.toList q2 with ⟨g1, g2, g3, g4⟩ | ⟨i, row, e, g1, g2, g3, g4, g5, g6⟩
  ·rw [g3] at h
   have hg := map_grow (Wt := fun b => okW wr b = true) (l' := l ++ [.int .i64 (.sym zk.val) :: gs.map G.sy]) hA.sat hb hρ hW q1 (es' := es.push { key := a.eval Y, val := a.eval V, born := cl }) (c' := cl + 1) (fun i e h => push_keep i e h) (fun hF => map_push (z := .sym zk.val) hz hat q1 g4 hF hva)
   have hrun : (execOp a.eval o).run P w = .ok .skip { w with heap := w.heap.setIfInBounds a_ (.map (es.push { key := a.eval Y, val := a.eval V, born := cl }) (cl + 1)) } := by
    simp [execOp, hop, hX, Instr.mapUpdate, run_underlying t1, MapKept.run_getObj_map q1, run_checkK t2 hz, g1, MapKept.run_setObj_map _ q1, Result.andThen]
   rw [hrun]
   exact hK _ undef _ _ _ h hg.1 hg.2 (.inl rfl)
  ·rw [g6] at h
   have g4' : es[i]? = some e := by simpa using g4
   have hg := map_grow (Wt := fun b => okW wr b = true) (l' := l.set i (.int .i64 (.sym zk.val) :: gs.map G.sy)) hA.sat hb hρ hW q1 (es' := es.modify i fun e => { e with key := a.eval Y, val := a.eval V }) (c' := cl) (fun i e h => modify_keep (fun e he => by rw [g4'] at he; cases he; exact ⟨g5.symm, rfl⟩) i e h) (fun hF => map_set (z := .sym zk.val) hz hat q1 g4' g5 hF hva)
   have hrun : (execOp a.eval o).run P w = .ok .skip { w with heap := w.heap.setIfInBounds a_ (.map (es.modify i fun e => { e with key := a.eval Y, val := a.eval V }) cl) } := by
    simp [execOp, hop, hX, Instr.mapUpdate, run_underlying t1, MapKept.run_getObj_map q1, run_checkK t2 hz, g1, g4', g5, run_staysK hz, MapKept.run_setObj_map _ q1, Result.andThen]
   rw [hrun]
   exact hK _ undef _ _ _ h hg.1 hg.2 (.inl rfl)
 ·exact (holds_fail h).elim
theorem l_mapEntry {t : TypeId} {ag : Option Nat} {z : List C} {X Y : Operand} {x y : Opd} (hI : I = ints) (hop : o.op = .mapEntry t X Y) (ht0 : mapTyI P t = some (ag, z)) (ho : opd X = some x) (ho' : opd Y = some y) (hA : At E m w ts a) (h9 : Holds P I p (evOp I er wr (.mapEntry ag z x y) ts m k)) : LRes P I p E m w wr a o k Q := by
 obtain ⟨ht, hag⟩ := mapTyI_inv ht0
 obtain ⟨c, hc, h⟩ := evC_inv ho hA h9
 obtain ⟨kd, zk, hz, h⟩ := evZ_inv ho' hA h
 obtain ⟨rfl, b, l, a_, rfl, hb, hρ, hX, hat, h⟩ := mapOf_inv hA.sat hc h
 obtain ⟨kt, et, zv, t1, t2, t3, t4, t5⟩ := mapTy_spec (P := P) (I := I) (p := p) ht
 obtain ⟨es, cl, q1, q2, q3, q4, q5⟩ := hat.keys
 rw [vag_id hag] at t4 t5
 have hkv : kvIs ag zk.val (.int .i64 zk.val) := (kvIs_int hag).2 rfl
 have hm : I.mset = mset := by rw [hI]; rfl
 have hbm : b < m.length := (List.getElem?_eq_some_iff.1 hb).1
 cases h with
 | find r hr h =>
 intro K hK
 unfold Oper.wp
 rcases find_spec t2 hkv l es.toList q2 with ⟨g1, g2, g3, g4⟩ | ⟨i, row, e, g1, g2, g3, g4, g5, g6⟩
 ·rw [g2] at hr
  subst hr
  have hW : okW wr b = true := by
   cases hq : okW wr b with
   | true => rfl
   | false => simp only [hq] at h; exact (holds_fail h).elim
  simp only [hW] at h
  ·cases hg0 : grounds z with
   | none => simp only [hg0] at h; exact (holds_fail h).elim
   | some gs =>
    simp only [hg0] at h
    obtain ⟨v1, h, hv⟩ := t4 E m w _ h
    rw [hm, g3] at h
    have hg := map_grow (Wt := fun b => okW wr b = true) (l' := l ++ [.int .i64 (.sym zk.val) :: gs.map G.sy]) hA.sat hb hρ hW q1 (es' := es.push { key := .int .i64 zk.val, val := zv, born := cl }) (c' := cl + 1) (fun i e h => push_keep i e h) (fun hF => map_push (z := .sym zk.val) hkv hat q1 g4 hF (by rw [vag_id hag]; exact (t5 _ _ _ hg0).sy))
    have hrun : (execOp a.eval o).run P w = .ok (.value (.tuple #[zv, .int .i64 cl])) { w with heap := w.heap.setIfInBounds a_ (.map (es.push { key := .int .i64 zk.val, val := zv, born := cl }) (cl + 1)) } := by
     simp [execOp, hop, hX, hz, Instr.mapEntry, run_underlying t1, MapKept.run_getObj_map q1, run_checkK t2 hkv, g1, MapKept.run_setObj_map _ q1, t3, Result.andThen, goInt]
    rw [hrun]
    refine hK _ _ _ _ _ h hg.1 hg.2 ⟨_, rfl, rfl, fun i x hi => ?_⟩
    match i, hi with
    | 0, hi => simp at hi; subst hi; exact ⟨_, rfl, hv.step hg.1.toStep⟩
    | 1, hi =>
     simp at hi
     subst hi
     exact ⟨_, rfl, .inr ⟨by simpa using hbm, a_, 0, cl, _, _, hρ, rfl, (MapKept.heap_set q1).1, es.size, { key := .int .i64 zk.val, val := zv, born := cl }, by simp, rfl, rfl⟩⟩
    | i + 2, hi => simp at hi
 ·rw [g2] at hr
  subst hr
  have g4' : es[i]? = some e := by simpa using g4
  obtain ⟨z', gs, rfl, k2, k3⟩ := q5 i row e g3 g4'
  rw [vag_id hag] at k3
  have hW : okW wr b = true := by
   cases hq : okW wr b with
   | true => rfl
   | false => simp only [hq] at h; exact (holds_fail h).elim
  simp only [hW] at h
  ·obtain ⟨v1, h, hv⟩ := val_seg (E := E) (m := m) k3 h
   have hmod : (es.modify i fun e => { e with key := .int .i64 zk.val }) = es := by
    apply Array.ext_getElem?
    intro j
    rw [Array.getElem?_modify]
    by_cases hij : i = j
    ·subst hij
     simp [g4', ← g5]
    ·simp [hij]
   have hw : ({ w with heap := w.heap.setIfInBounds a_ (.map (es.modify i fun e => { e with key := .int .i64 zk.val }) cl) } : World) = w := by
    rw [hmod]
    have : w.heap.setIfInBounds a_ (.map es cl) = w.heap := by
     apply Array.ext_getElem?
     intro j
     by_cases hj : a_ = j
     ·subst hj
      rw [(MapKept.heap_set q1).1, q1]
     ·rw [(MapKept.heap_set q1).2 j (Ne.symm hj)]
    rw [this]
   have hrun : (execOp a.eval o).run P w = .ok (.value (.tuple #[e.val, .int .i64 e.born])) w := by
    have : (execOp a.eval o).run P w = .ok (.value (.tuple #[e.val, .int .i64 e.born])) { w with heap := w.heap.setIfInBounds a_ (.map (es.modify i fun e => { e with key := .int .i64 zk.val }) cl) } := by
     simp [execOp, hop, hX, hz, Instr.mapEntry, run_underlying t1, MapKept.run_getObj_map q1, run_checkK t2 hkv, g1, g4', g5, run_staysK hkv, MapKept.run_setObj_map _ q1, Result.andThen, goInt]
    rw [this, hw]
   rw [hrun]
   refine hK _ _ _ _ _ h (Grow.refl _ _ _ _) hA.sat ⟨_, rfl, rfl, fun j x hi => ?_⟩
   match j, hi with
   | 0, hi => simp at hi; subst hi; exact ⟨_, rfl, hv⟩
   | 1, hi =>
    simp at hi
    subst hi
    exact ⟨_, rfl, .inr ⟨hbm, a_, 0, e.born, es, cl, hρ, rfl, q1, i, e, g4', rfl, g5⟩⟩
   | j + 2, hi => simp at hi
theorem l_entryStore {t : TypeId} {ag : Option Nat} {z : List C} {X Y V : Operand} {x y v : Opd} (hI : I = ints) (hop : o.op = .entryStore t X Y V) (ht0 : mapTyI P t = some (ag, z)) (ho : opd X = some x) (ho' : opd Y = some y) (hv : opd V = some v) (hA : At E m w ts a) (h9 : Holds P I p (evOp I er wr (.entryStore ag x y v) ts m k)) : LRes P I p E m w wr a o k Q := by
 obtain ⟨ht, hag⟩ := mapTyI_inv ht0
 obtain ⟨kt, et, zv, t1, t2, t3, t4, t5⟩ := mapTy_spec (P := P) (I := I) (p := p) ht
 obtain ⟨c, hc, h⟩ := evC_inv ho hA h9
 obtain ⟨s, hs, h1⟩ := evC_inv ho' hA h
 clear h
 obtain ⟨av, hav, hne, h2⟩ := evV_inv hv hA h1
 clear h1
 obtain ⟨-, b, l, a_, rfl, hb, hρ, hX, hat, h⟩ := mapOf_inv hA.sat hc h2
 clear h2
 obtain ⟨es, cl, q1, q2, q3, q4, q5⟩ := hat.keys
 split at h
 ·rename_i b' key gs hW hg hf
  split at h
  ·rename_i hbb
   obtain rfl : b = b' := by simpa using hbb
   have hva := (fits_rep hf hg hav).sy
   rcases hs with hs | ⟨_, a', base, born, es', c', s1, s2, s3, i, e, s4, s5, s6⟩
   ·cases hs
   rw [hρ] at s1
   cases s1
   rw [q1] at s3
   cases s3
   have hm : I.mset = mset := by rw [hI]; rfl
   rw [hm] at h
   intro K hK
   unfold Oper.wp
   have hix : es.findIdx? (fun e => (e.born : Int) == (born : Int)) = some i := by
    rw [Array.findIdx?_eq_some_iff_getElem]
    obtain ⟨hlt, hge⟩ := Array.getElem?_eq_some_iff.1 s4
    refine ⟨hlt, by rw [hge]; simp [s5], fun j hj => ?_⟩
    have hjs : j < es.size := by omega
    simp only [beq_iff_eq, Int.ofNat_inj]
    intro hb'
    have := q4 j i es[j] e (Array.getElem?_eq_getElem hjs) s4 (.inl (by rw [s5]; simpa using hb'))
    omega
   have hkv : kvIs ag key.val (.int .i64 key.val) := (kvIs_int hag).2 rfl
   rcases find_spec t2 hkv l es.toList q2 with ⟨g1, g2, g3, g4⟩ | ⟨i', row, e', g1, g2, g3, g4, g5, g6⟩
   ·exact absurd s6 (g4 e (List.mem_of_getElem? (by simpa using s4)))
   ·have g4' : es[i']? = some e' := by simpa using g4
    obtain rfl : i' = i := q4 i' i e' e g4' s4 (.inr (by rw [g5, s6]))
    rw [s4] at g4'
    cases g4'
    rw [g6] at h
    have hmod : (es.modify i' fun e => { e with val := a.eval V }) = es.modify i' fun e => { e with key := .int .i64 key.val, val := a.eval V } := by
     apply Array.ext_getElem?
     intro j
     rw [Array.getElem?_modify, Array.getElem?_modify]
     by_cases hij : i' = j
     ·subst hij
      simp [s4, s6]
     ·simp [hij]
    have hg := map_grow (Wt := fun b => okW wr b = true) (l' := l.set i' (.int .i64 (.sym key.val) :: gs.map G.sy)) hA.sat hb hρ hW q1 (es' := es.modify i' fun e => { e with key := .int .i64 key.val, val := a.eval V }) (c' := cl) (fun i e h => modify_keep (fun e he => by rw [s4] at he; cases he; exact ⟨s6.symm, rfl⟩) i e h) (fun hF => map_set (z := .sym key.val) hkv hat q1 s4 s6 hF (by rw [vag_id hag]; exact hva))
    have hrun : (execOp a.eval o).run P w = .ok .skip { w with heap := w.heap.setIfInBounds a_ (.map (es.modify i' fun e => { e with key := .int .i64 key.val, val := a.eval V }) cl) } := by
     rw [← hmod]
     simp [execOp, hop, hX, s2, Instr.entryStore, MapKept.run_getObj_map q1, hix, MapKept.run_setObj_map _ q1, Result.andThen, asInt, asIntOf]
    rw [hrun]
    exact hK _ undef _ _ _ h hg.1 hg.2 (.inl rfl)
  ·exact (holds_fail h).elim
 ·exact (holds_fail h).elim
theorem l_lenMap {t kt et ty : TypeId} {X : Operand} {x : Opd} {ats : Array TypeId} (hI : I = ints) (hop : o.op = .call { callee := .builtin .len, args := #[X], argTypes := ats }) (h0 : ats[0]? = some t) (ht : P.underlying t = some (.map kt et)) (ho : opd X = some x) (hA : At E m w ts a) (h9 : Holds P I p (evOp I er wr (.lenMap x) ts m k)) : LRes P I p E m w wr a o k Q := by
 obtain ⟨c, hc, h⟩ := evC_inv ho hA h9
 split at h
 ·rename_i b
  split at h
  ·rename_i ag l hb
   rcases hc with hc | ⟨_, a_, base, h1, h2⟩
   ·cases hc
   obtain ⟨a', e, _, hat⟩ := hA.sat.maps b ag l hb
   rw [e] at h1
   cases h1
   obtain ⟨es, cl, q1, q2, _⟩ := hat.keys
   have hl : (I.ofNat (I.len l) : Int) = (es.size : Int) := by
    rw [hI]
    show ((l.length : Nat) : Int) = _
    rw [← q2.1]
    simp
   intro K hK
   unfold Oper.wp
   have hrun : (execOp a.eval o).run P w = .ok (.value (.int .i64 (es.size : Int))) w := by
    simp [execOp, hop, resolve, invoke, builtin, h2, Builtin.len_, h0, run_underlying ht, MapKept.run_getObj_map q1, goInt]
   rw [hrun]
   refine hK _ _ _ _ _ h (Grow.refl _ _ _ _) hA.sat (.inr ?_)
   rw [← hl]
   exact .int .i64 (.sym _)
  ·exact (holds_fail h).elim
 ·exact (holds_fail h).elim
/-! ### Copies, bytes as a text -/
theorem run_copy0 {dT e ty es : Nat} {ats : Array TypeId} (h0 : ats[0]? = some dT) (hu : P.underlying dT = some (.slice e)) (hs : size? P e = some es) (A1 A2 : Option Addr) (n c n2 c2 : Nat) (hn : Nat.min n2 n = 0) (w : World) :
  (Builtin.copy_ ats ty #[.slice A1 n c, .slice A2 n2 c2]).run P w = .ok (goInt 0) w := by
 unfold size? at hs
 cases hq : P.info? e with
 | none => simp [hq] at hs
 | some i =>
  have hl : ∀ (x : Addr), (loadCells x 0).run P w = .ok #[] w := fun x => by simpa using run_loadCells_list (P := P) w x [] (by simp)
  cases A1 <;> cases A2 <;> simp [Builtin.copy_, h0, run_underlying hu, Builtin.lenOf, Builtin.firstCells, sizeOf, typeInfo, hq, hn, storeCells, hl]
theorem run_copy_flat {dT e ty es : Nat} {ats : Array TypeId} (h0 : ats[0]? = some dT) (hu : P.underlying dT = some (.slice e)) (hs : size? P e = some es) (b o n c : Nat) (A2 : Addr) (n2 c2 : Nat) (cs : List Value) (hn : cs.length = Nat.min n2 n * es) (w : World)
  (hsrc : ∀ (j : Nat) (v : Value), cs[j]? = some v → w.cell? (A2.add j) = some v) (hc : ∀ j, j < cs.length → (w.cell? ⟨b, o + j, none⟩).isSome = true) (hf : ∀ j, j < cs.length → w.frozen? ⟨b, o + j, none⟩ = false) (h1 : ∀ v ∈ cs, v.oneCell' = true) :
  (Builtin.copy_ ats ty #[.slice (some ⟨b, o, none⟩) n c, .slice (some A2) n2 c2]).run P w = .ok (goInt (Nat.min n2 n : Nat)) (w.setCells b o cs) := by
 have hl := run_loadCells_list (P := P) w A2 cs hsrc
 have hst := run_storeCells_cells (P := P) b o cs 0 w (by simpa using hc) (by simpa using hf) h1
 unfold size? at hs
 cases hq : P.info? e with
 | none => simp [hq] at hs
 | some i =>
  have hi : i.size = es := by simpa [hq] using hs
  rw [hn] at hl
  simp [Builtin.copy_, h0, run_underlying hu, Builtin.lenOf, Builtin.firstCells, sizeOf, typeInfo, hq, hi, hl, hst]
theorem mn_val (x y : Nat) : ints.mn (ints.ofNat x) (ints.ofNat y) = ((Nat.min y x : Nat) : Int) := by
 show (if ((y : Nat) : Int) < (x : Nat) then ((y : Nat) : Int) else (x : Nat)) = _
 show _ = ((min y x : Nat) : Int)
 split <;> (rw [Nat.min_def]; split <;> omega)
theorem set_self {m : Mem} {b : Nat} {blk : Blk} (hb : m[b]? = some blk) : m.set b blk = m := by
 apply List.ext_getElem?
 intro q
 rw [List.getElem?_set]
 by_cases hq : b = q
 ·subst hq
  rw [hb]
  simp [(List.getElem?_eq_some_iff.1 hb).1]
 ·simp [hq]
/-- Elements are laid over others of a live block. -/
theorem cpy_core {dT e es : Nat} {ats : Array TypeId} {X Y : Operand} (hI : I = ints) (hop : o.op = .call { callee := .builtin .copy, args := #[X, Y], argTypes := ats }) (h0 : ats[0]? = some dT) (hu : P.underlying dT = some (.slice e)) (hs : size? P e = some es) (hes : 0 < es)
  (hA : At E m w ts a) {b a_ base off c i n : Nat} {l src : List (List G)} (hb : m[b]? = some (.sym es l)) (hρ : E.ρ b = some (a_, base)) (hW : okW wr b = true) (hX : a.eval X = .slice (some (at_ a_ off)) n c) (hoff : 0 < c → off = base + i * es) (hc : n ≤ c) (hin : i + n ≤ l.length)
  (hR : Reads E w es src (a.eval Y)) (h : Holds P I p (k (.one (.c (.g (.int .i64 (.sym (Nat.min src.length n : Nat)))))) (m.set b (.sym es (l.take i ++ src.take n ++ l.drop (i + min n src.length)))))) : LRes P I p E m w wr a o k Q := by
 obtain ⟨A2, c2, hY, hc2, hw2, hR⟩ := hR
 intro K hK
 unfold Oper.wp
 rcases hA.sat.rep b _ hb trivial with ⟨q, _⟩ | ⟨a', base', q, g1, g2, g3⟩
 ·rw [q] at hρ; cases hρ
 rw [q] at hρ
 cases hρ
 have hz : Nat.min src.length n = 0 → Oper.upon P o a K Q ((execOp a.eval o).run P w) := fun h0' => by
  have hrun : (execOp a.eval o).run P w = .ok (.value (goInt 0)) w := by
   simp only [execOp, hop, resolve, invoke, builtin]
   simp [hX, hY, run_copy0 (ty := o.type) h0 hu hs (some (at_ a_ off)) A2 n c src.length c2 h0' w]
  have hl : l.take i ++ src.take n ++ l.drop (i + min n src.length) = l := by
   rw [Nat.min_comm, show min src.length n = 0 from h0', Nat.add_zero]
   have : src.take n = [] := by
    rw [List.eq_nil_iff_length_eq_zero, List.length_take, Nat.min_comm]
    exact h0'
   rw [this, List.append_nil, List.take_append_drop]
  rw [hl, h0'] at h
  have hm : m.set b (.sym es l) = m := by
   apply List.ext_getElem?
   intro q
   rw [List.getElem?_set]
   by_cases hq : b = q
   ·subst hq
    rw [hb]
    simp [(List.getElem?_eq_some_iff.1 hb).1]
   ·simp [hq]
  rw [hm] at h
  rw [hrun]
  exact hK _ _ _ _ _ h (Grow.refl _ _ _ _) hA.sat (.inr (.int .i64 (.sym _)))
 rcases hR with rfl | ⟨a2, off2, rfl, -, hcell⟩
 ·exact hz (by simp)
 by_cases hmin : Nat.min src.length n = 0
 ·exact hz hmin
 have hmle : Nat.min src.length n ≤ n := Nat.min_le_right _ _
 have hmls : Nat.min src.length n ≤ src.length := Nat.min_le_left _ _
 have hoff := hoff (by omega)
 obtain ⟨us, u1, u2, u3, u4⟩ := flat_cells (w := w) (E := E) hw2 hes hcell
 obtain ⟨N, hN⟩ : ∃ N, N = Nat.min src.length n := ⟨_, rfl⟩
 rw [← hN] at hmle hmls hmin h
 have hNe : N * es ≤ us.length := by rw [u1]; exact Nat.mul_le_mul_right es hmls
 obtain ⟨cs, hcs⟩ : ∃ cs, cs = us.take (N * es) := ⟨_, rfl⟩
 have hcl : cs.length = N * es := by rw [hcs, List.length_take]; omega
 have hcg : ∀ (j : Nat) (v : Value), cs[j]? = some v → us[j]? = some v := fun j v hj => by
  rw [hcs, List.getElem?_take] at hj
  split at hj
  ·exact hj
  ·cases hj
 have hlen : l.length * es = i * es + (l.length - i) * es := by rw [← Nat.add_mul]; congr 1; omega
 have hfit : i * es + N * es ≤ l.length * es := by rw [← Nat.add_mul]; exact Nat.mul_le_mul_right es (by omega)
 have hth : ∀ j, j < cs.length → (w.cell? ⟨a_, off + j, none⟩).isSome = true ∧ w.frozen? ⟨a_, off + j, none⟩ = false := fun j hj => by
  have := g1 (i * es + j) (by simp [Blk.rows, Blk.es]; omega)
  rw [hoff, Nat.add_assoc]
  exact this
 have hrun : (execOp a.eval o).run P w = .ok (.value (goInt (N : Nat))) (w.setCells a_ off cs) := by
  have := run_copy_flat (P := P) (ty := o.type) h0 hu hs a_ off n c (at_ a2 off2) src.length c2 cs (by rw [hcl, hN]) w (fun j v hj => by
   rw [at_add]
   exact u2 j v (hcg j v hj)) (fun j hj => (hth j hj).1) (fun j hj => (hth j hj).2) (fun v hv => u3 v (by rw [hcs] at hv; exact List.mem_of_mem_take hv))
  simp only [execOp, hop, resolve, invoke, builtin]
  rw [← hN] at this
  simp [hX, hY]
  unfold at_ at this ⊢
  rw [this]
  rfl
 obtain ⟨k1, k2, k3, k4, k5⟩ := setCells_keep w a_ cs off w
 have hmin' : min n src.length = N := by rw [hN]; exact Nat.min_comm _ _
 rw [hmin'] at h
 have htn : (src.take n).length = N := by rw [List.length_take]; exact hmin'
 have hti : (l.take i).length = i := by rw [List.length_take]; omega
 have hg := write_grow (w' := w.setCells a_ off cs) (Wt := fun b => okW wr b = true) hA.sat hb trivial (blk' := .sym es (l.take i ++ src.take n ++ l.drop (i + N))) trivial q hW k1 k2 k3 k4 k5 (stays_setCells _ _ _ _) (by simp only [Blk.rows, List.length_map, List.length_append, List.length_drop, htn, hti]; omega) rfl (fun r row hr => by
  have old : ∀ (row : List C), (l.map fun r => r.map C.g)[r]? = some row → (r < i ∨ i + N ≤ r) → row.length = es ∧ ∀ (j : Nat) (x : C), row[j]? = some x → ∃ u, (w.setCells a_ off cs).cell? (at_ a_ (base + (r * es + j))) = some u ∧ CRep E m w x u := fun row hr hlt => by
   obtain ⟨h1, h2⟩ := g3 r row hr
   refine ⟨h1, fun j x hj => ?_⟩
   obtain ⟨u, q1, q2⟩ := h2 j x hj
   refine ⟨u, ?_, q2⟩
   have hjl : j < es := by
    have : j < row.length := (List.getElem?_eq_some_iff.1 hj).1
    have h1' : row.length = es := h1
    omega
   rw [World.cell?_setCells_out a_ _ _ w _ (fun _ _ => ?_)]
   ·exact q1
   ·simp only [at_, hcl]
    rcases hlt with hlt | hlt
    ·left
     have := Nat.mul_le_mul_right es (show r + 1 ≤ i from hlt)
     rw [Nat.add_mul] at this
     omega
    ·right
     have := Nat.mul_le_mul_right es hlt
     rw [Nat.add_mul] at this
     omega
  simp only [Blk.rows, Blk.es, List.map_append] at hr ⊢
  rw [List.getElem?_append] at hr
  split at hr
  ·rename_i hlt1
   simp only [List.length_append, List.length_map, hti, htn] at hlt1
   rw [List.getElem?_append] at hr
   split at hr
   ·rename_i hlt2
    simp only [List.length_map, hti] at hlt2
    refine old row ?_ (.inl hlt2)
    rw [List.map_take, List.getElem?_take] at hr
    rw [if_pos hlt2] at hr
    exact hr
   ·rename_i hge
    simp only [List.length_map, hti] at hr hge
    rw [List.getElem?_map] at hr
    obtain ⟨sr, hsr, rfl⟩ := Option.map_eq_some_iff.1 hr
    rw [List.getElem?_take] at hsr
    split at hsr
    ·rename_i hri
     have hwr := hw2 _ _ hsr
     refine ⟨by simpa using hwr, fun j x hj => ?_⟩
     rw [List.getElem?_map] at hj
     obtain ⟨g, hg, rfl⟩ := Option.map_eq_some_iff.1 hj
     obtain ⟨u, q1, q2⟩ := u4 (r - i) sr j g hsr hg
     have hjl : j < es := by rw [← hwr]; exact (List.getElem?_eq_some_iff.1 hg).1
     have hidx : (r - i) * es + j < cs.length := by
      rw [hcl]
      have := Nat.mul_le_mul_right es (show r - i + 1 ≤ N by omega)
      rw [Nat.add_mul] at this
      omega
     have := World.cell?_setCells_in a_ cs off w (fun j hj => (hth j hj).1) ((r - i) * es + j) hidx
     refine ⟨u, ?_, q2⟩
     have hv : cs[(r - i) * es + j] = u := by
      have h1 : cs[(r - i) * es + j]? = some u := by
       rw [hcs, List.getElem?_take, if_pos (by rw [hcl] at hidx; exact hidx)]
       exact q1
      rw [List.getElem?_eq_getElem hidx] at h1
      exact Option.some.inj h1
     rw [hv] at this
     rw [← this]
     unfold at_
     congr 2
     rw [hoff]
     have : r * es = i * es + (r - i) * es := by rw [← Nat.add_mul]; congr 1; omega
     omega
    ·cases hsr
  ·rename_i hge
   simp only [List.length_append, List.length_map, hti, htn] at hr hge
   refine old row ?_ (.inr (by omega))
   rw [List.map_drop, List.getElem?_drop, show i + N + (r - (i + N)) = r by omega] at hr
   exact hr)
 rw [hrun]
 exact hK _ _ _ _ _ h hg.1 hg.2 (.inr (.int .i64 (.sym _)))
theorem l_copy {dT e es : Nat} {ats : Array TypeId} {X Y : Operand} {x y : Opd} (hI : I = ints) (hop : o.op = .call { callee := .builtin .copy, args := #[X, Y], argTypes := ats }) (h0 : ats[0]? = some dT) (hu : P.underlying dT = some (.slice e)) (hs : size? P e = some es) (hes : 0 < es)
  (ho : opd X = some x) (ho' : opd Y = some y) (hA : At E m w ts a) (h9 : Holds P I p (evOp I er wr (.copy es x y) ts m k)) : LRes P I p E m w wr a o k Q := by
 obtain ⟨c, hc, h8⟩ := evC_inv ho hA h9
 obtain ⟨d, hd, h⟩ := evC_inv ho' hA h8
 split at h
 ·rename_i src hsrc
  have hR := rowsOf_reads hI hA.sat hsrc hd
  unfold cpy at h
  split at h
  ·rename_i b es' cap
   split at h
   ·rename_i l he hW hb
    obtain rfl : es = es' := by simpa using he
    rcases hc with hc | ⟨_, ho1, hc⟩
    ·cases hc
    obtain ⟨e1, _, hc⟩ := hc _ hb trivial
    have e1 : (Blk.sym _ l).es = es := e1
    simp only [Blk.es] at e1
    subst e1
    rcases hc with ⟨r1, r2⟩ | ⟨a_, base, c', r1, r2, r3, r4, r5⟩
    ·-- no row at all
     rcases hA.sat.rep b _ hb trivial with ⟨_, q⟩ | ⟨a', base', q, _⟩
     ·have hl : l = [] := by simpa [Blk.rows] using q
      subst hl
      obtain ⟨A2, c2, hY, hc2, hw2, _⟩ := hR
      intro K hK
      unfold Oper.wp
      have hrun : (execOp a.eval o).run P w = .ok (.value (goInt 0)) w := by
       simp only [execOp, hop, resolve, invoke, builtin]
       simp [r2, hY, run_copy0 (ty := o.type) h0 hu hs none A2 0 0 src.length c2 (Nat.min_zero _) w]
      subst hI
      rw [show ints.cpy [] 0 (ints.len []) src = [] from by simp [ints], set_self hb] at h
      rw [hrun]
      refine hK _ _ _ _ _ h (Grow.refl _ _ _ _) hA.sat (.inr ?_)
      have : (ints.mn (ints.ofNat (ints.len [])) (ints.ofNat (ints.len src))) = 0 := by
       rw [mn_val]
       simp [ints]
      rw [this]
      exact .int .i64 (.sym 0)
     ·rw [q] at r1; cases r1
    ·refine cpy_core hI hop h0 hu hs hes hA hb r1 hW r2 (i := 0) (fun _ => by simp) r3 (by simp [Blk.rows]) hR (n := (Blk.sym _ l).rows.length) ?_
     subst hI
     rw [mn_val] at h
     simpa [ints, Blk.rows] using h
   ·exact (holds_fail h).elim
  ·rename_i b i es' n cap
   split at h
   ·rename_i l he hW hb
    obtain rfl : es = es' := by simpa using he
    rcases hc with hc | ⟨_, ho1, hc⟩
    ·cases hc
    obtain ⟨e1, e2, _, hc⟩ := hc _ hb trivial
    have e1 : (Blk.sym _ l).es = es := e1
    simp only [Blk.es] at e1
    subst e1
    rcases hc with ⟨r1, r2, r0⟩ | ⟨a_, base, c', off, r1, r2, r3, r4, r5, r6⟩
    ·rcases hA.sat.rep b _ hb trivial with ⟨_, q⟩ | ⟨a', base', q, _⟩
     ·have hl : l = [] := by simpa [Blk.rows] using q
      subst hl
      obtain ⟨A2, c2, hY, hc2, hw2, _⟩ := hR
      intro K hK
      unfold Oper.wp
      have hrun : (execOp a.eval o).run P w = .ok (.value (goInt 0)) w := by
       simp only [execOp, hop, resolve, invoke, builtin]
       simp [r2, hY, run_copy0 (ty := o.type) h0 hu hs none A2 0 0 src.length c2 (Nat.min_zero _) w]
      subst hI
      rw [show ints.cpy [] i.val n.val src = [] from by simp [ints, r0], set_self hb] at h
      rw [hrun]
      refine hK _ _ _ _ _ h (Grow.refl _ _ _ _) hA.sat (.inr ?_)
      have : (ints.mn (ints.ofNat n.val) (ints.ofNat (ints.len src))) = 0 := by
       rw [mn_val, r0]
       simp
      rw [this]
      exact .int .i64 (.sym 0)
     ·rw [q] at r1; cases r1
    ·refine cpy_core hI hop h0 hu hs hes hA hb r1 hW r2 (i := i.val) r3 r4 (by simpa [Blk.rows] using e2) hR ?_
     subst hI
     rw [mn_val] at h
     exact h
   ·exact (holds_fail h).elim
  ·exact (holds_fail h).elim
 ·exact (holds_fail h).elim
theorem l_b2s {s d e : TypeId} {X : Operand} {x : Opd} (hI : I = ints) (hop : o.op = .convert s d X) (hs : P.underlying s = some (.slice e)) (he : P.underlying e = some (.int .u8)) (hd : P.underlying d = some .string) (ho : opd X = some x) (hA : At E m w ts a) (h9 : Holds P I p (evOp I er wr (.b2s x) ts m k)) : LRes P I p E m w wr a o k Q := by
 obtain ⟨c, hc, h⟩ := evC_inv ho hA h9
 split at h
 ·rename_i l hl
  cases h with
  | bytes hu h =>
  obtain ⟨A2, c2, hY, hc2, hw2, hR⟩ := rowsOf_reads hI hA.sat hl hc
  intro K hK
  unfold Oper.wp
  have fin : (execOp a.eval o).run P w = .ok (.value (.string (strOfNums (l.map gNum)))) w → Oper.upon P o a K Q ((execOp a.eval o).run P w) := fun hrun => by
   rw [hrun]
   refine hK _ _ _ _ _ h (Grow.refl _ _ _ _) hA.sat (.inr ?_)
   rw [hI]
   exact .str _
  rcases hR with rfl | ⟨a2, off2, rfl, -, hcell⟩
  ·refine fin ?_
   have h0 : (convert s d (.slice A2 0 c2)).run P w = .ok (.string (strOfNums [])) w := by
    cases A2 with
    | none => exact run_convert_bytes_nil w s e hs he 0 c2 d hd
    | some A2 =>
     rw [run_convert_bytes_string w s d e _ 0 c2 hs he hd]
     have := run_loadCells_list (P := P) w A2 [] (by simp)
     simp at this
     simp [Conv.bytesToString, this, strOfNums]
     rfl
   simp [execOp, hop, hY, h0]
  ·refine fin ?_
   have := run_convert_bytes_arg w s e hs he a2 off2 l.length c2 (l.map gNum) (by simp) (fun i hi => by
    obtain ⟨z, hz⟩ := hu i _ (List.getElem?_eq_getElem hi)
    obtain ⟨u, q1, q2⟩ := hcell i _ 0 (.int .u8 z) (List.getElem?_eq_getElem hi) (by rw [hz]; rfl)
    generalize hu' : u = u' at q2
    cases q2
    subst hu'
    have hg : (l.map gNum).getD i 0 = z.val := by
     rw [List.getD_eq_getElem?_getD, List.getElem?_map, List.getElem?_eq_getElem hi, hz]
     rfl
    rw [hg]
    simp only [Nat.mul_one, Nat.add_zero] at q1
    exact q1) d hd
   have h0 : (convert s d (.slice (some (at_ a2 off2)) l.length c2)).run P w = .ok (.string (strOfNums (l.map gNum))) w := this
   simp [execOp, hop, hY, h0]
 ·exact (holds_fail h).elim
/-- A text that is known, as bytes. -/
theorem l_s2b {s d e : TypeId} {b : ByteArray} (hop : o.op = .convert s d (.const (.string b))) (hs : P.underlying s = some .string) (hd : P.underlying d = some (.slice e)) (he : P.underlying e = some (.int .u8)) (hA : At E m w ts a) (h : Holds P I p (evOp I er wr (.s2b (b.data.toList.map UInt8.toNat)) ts m k)) : LRes P I p E m w wr a o k Q := by
 intro K hK
 have hrun0 := run_bytes_of_string (P := P) w s d e b hs hd he
 have hge := grownCap_ge w b.size 0 e
 generalize grownCap w b.size 0 e = cp at hrun0 hge
 obtain ⟨cs, hcs⟩ : ∃ cs, cs = bytesRow b cp := ⟨_, rfl⟩
 rw [← hcs] at hrun0
 have hsz : cs.size = cp := by
  rw [hcs]
  have : b.data.size = b.size := rfl
  simp [bytesRow]
  omega
 have hget : ∀ (i : Nat) (n : Nat), (b.data.toList.map UInt8.toNat)[i]? = some n → cs[i]? = some (.int .u8 (n : Int)) := fun i n hi => by
  rw [List.getElem?_map] at hi
  obtain ⟨c, hc, rfl⟩ := Option.map_eq_some_iff.1 hi
  have hlt := (List.getElem?_eq_some_iff.1 hc).1
  rw [hcs, bytesRow, Array.getElem?_append_left (by simpa using hlt), Array.getElem?_map]
  rw [Array.getElem?_toList] at hc
  rw [hc]
  rfl
 obtain ⟨w', hw'⟩ : ∃ w', w' = w.drew.alloc (.cells cs e (cs.size, cs.size + 1)) := ⟨_, rfl⟩
 rw [← hw'] at hrun0
 have hnew : w'.heap[w.heap.size]? = some (.cells cs e (cs.size, cs.size + 1)) := by rw [hw']; exact heap_alloc_new w.drew _
 have hold : ∀ k, k < w.heap.size → w'.heap[k]? = w.heap[k]? := fun k hk => by rw [hw']; exact heap_alloc_old w.drew _ hk
 have hcell : ∀ off, w'.cell? (at_ w.heap.size off) = cs[off]? := fun off => by simp [World.cell?, at_, hnew]
 have hth : ∀ n, n ≤ cs.size → w'.there w.heap.size 0 n := fun n hn j hj => by
  have h1 : w'.cell? ⟨w.heap.size, 0 + j, none⟩ = cs[0 + j]? := hcell (0 + j)
  rw [h1]
  refine ⟨by simp; omega, ?_⟩
  simp only [World.frozen?, hnew]
  simp
  try omega
 have hg := add_grow (Wt := fun b => okW wr b = true) (w' := w') hA.sat (blk := .sym 1 ((b.data.toList.map UInt8.toNat).map fun (n : Nat) => [.int .u8 (.sym (n : Int))])) (r := some (w.heap.size, 0)) (by rw [hw']; simp) (by rw [hw']; rfl) (by rw [hw']; rfl) (by rw [hw']; rfl) (stays_below hold) hold (fun a_ base e => by cases e; exact Nat.le_refl _)
  (fun _ => .inr ⟨w.heap.size, 0, rfl, hth _ (by simp only [Blk.rows, Blk.es, List.length_map]; have : b.data.size = b.size := rfl; simp; omega), (Array.getElem?_eq_some_iff.1 hnew).1, fun i row hi => by
   simp only [Blk.rows, List.getElem?_map] at hi
   obtain ⟨r, hr, rfl⟩ := Option.map_eq_some_iff.1 hi
   obtain ⟨n, hn, rfl⟩ := Option.map_eq_some_iff.1 hr
   refine ⟨rfl, fun j x hj => ?_⟩
   cases j with
   | zero =>
    simp at hj
    subst hj
    refine ⟨_, ?_, .int .u8 (.sym (n : Int))⟩
    rw [hcell]
    simp only [Blk.es, Nat.zero_add, Nat.mul_one, Nat.add_zero]
    exact hget i n (by rw [List.getElem?_map]; exact hn)
   | succ j => simp at hj⟩)
 have hrun : (execOp a.eval o).run P w = .ok (.value (.slice (some ⟨w.heap.size, 0, none⟩) b.size cp)) w' := by
  simp [execOp, hop, Act.eval, hrun0]
 unfold Oper.wp
 rw [hrun]
 refine hK _ _ _ _ _ h hg.1 hg.2 (.inr ?_)
 exact row_new (if_pos rfl) rfl (by simp [Blk.rows]; try rfl) (fun c' hc' => by cases hc') hge (fun c' hc' => by cases hc') (hth _ (by show cp * 1 ≤ cs.size; omega))
/-- Noughts behind nil. -/
theorem l_appendZ {t u e : TypeId} {kn : IntKind} {i : TypeInfo} {z : List C} {X Y : Operand} {x y : Opd} (hI : I = ints) (hop : o.op = .call { callee := .builtin .append, args := #[X, Y], argTypes := #[t, u] }) (ht : P.underlying t = some (.slice e)) (hu : P.underlying u = some (.int kn)) (hi : P.info? e = some i) (hz : zero P e = some z) (h0 : 0 < i.size)
  (ho : opd X = some x) (ho' : opd Y = some y) (hA : At E m w ts a) (h : Holds P I p (evOp I er wr (.appendZ i.size i.bytes z x y) ts m k)) : LRes P I p E m w wr a o k Q := by
 obtain ⟨c, hc, h⟩ := evC_inv ho hA h
 obtain ⟨kq, n, hn, h⟩ := evZ_inv ho' hA h
 split at h
 ·rename_i g hg _
  cases h with
  | nz hne h =>
  cases h with
  | size n' e1 e2 h =>
  obtain ⟨i', zv, h1, h2, h3, c1, c2⟩ := zero_rep hz E m w
  rw [hi] at h1
  cases h1
  have hX : a.eval X = .slice none 0 0 := by
   rcases hc with hc | hc
   ·cases hc
   ·generalize a.eval X = v at hc
    cases hc
    rfl
  rw [e1] at hn
  have hpos : 0 < n' := by omega
  have hb48 : n' * i.bytes ≤ 281474976710656 := by omega
  have hzl : z.length = i.size := by rw [← c1.1, h3]
  have hge := grownCap_ge w n' 0 e
  cases h with
  | most e3 e4 h =>
  have h63 : (n' : Int) ≤ 9223372036854775807 := by omega
  have hrun := Lib.run_append_nil_zeros (P := P) w t u o.type e i zv kq kn ht hu hi h2 n' hpos h0 h63 hb48
  generalize grownCap w n' 0 e = cp at hrun hge
  have hzg := grounds_map hg
  intro K hK
  obtain ⟨cs, hcs⟩ : ∃ cs, cs = Builtin.zeroCells zv.cells n' ++ Builtin.zeroCells zv.cells (cp - n') := ⟨_, rfl⟩
  rw [← hcs] at hrun
  have hsz : cs.size = cp * i.size := by
   rw [hcs]
   simp only [Builtin.zeroCells, Array.size_append, Array.size_map, Array.size_range, h3]
   rw [← Nat.add_mul]
   congr 1
   omega
  have hle : n' * i.size ≤ cp * i.size := Nat.mul_le_mul_right _ hge
  subst hI
  have hgr := new_grow (Wt := fun b => okW wr b = true) (w' := w.drew.alloc (.cells cs e)) (blk := .sym i.size (List.replicate n' (g.map G.sy))) (g := w.heap.size) (cs := cs) (ty := e) hA.sat trivial (Nat.le_refl _) (heap_alloc_new w.drew _) (fun k hk => heap_alloc_old w.drew _ hk) (by simp) rfl rfl rfl (by simp [Blk.rows, Blk.es]; omega) (fun q row hq => by
   simp only [Blk.rows, List.map_replicate, List.getElem?_replicate] at hq
   split at hq
   ·rename_i hqn
    cases hq
    rw [map_sy hzg]
    refine ⟨by simp [Blk.es, hzl], fun j x hj => ?_⟩
    rw [List.getElem?_map] at hj
    obtain ⟨y, hy, rfl⟩ := Option.map_eq_some_iff.1 hj
    obtain ⟨u, q1, q2⟩ := zcell c1 hzl hqn hy
    refine ⟨u, ?_, C_sy q2⟩
    have hjl : j < i.size := by rw [← hzl]; exact (List.getElem?_eq_some_iff.1 hy).1
    have hlt : (q + 1) * i.size ≤ n' * i.size := Nat.mul_le_mul_right _ hqn
    rw [Nat.add_mul] at hlt
    rw [hcs, Array.getElem?_append_left (by simp only [Builtin.zeroCells, Array.size_map, Array.size_range, h3, Blk.es]; omega)]
    have : zv.cells.size = i.size := h3
    simp only [Builtin.zeroCells, Blk.es]
    rw [this] at q1 ⊢
    exact q1
   ·cases hq)
  have hrun2 : (execOp a.eval o).run P w = .ok (.value (.slice (some ⟨w.heap.size, 0, none⟩) n' cp)) (w.drew.alloc (.cells cs e)) := by
   have := hrun
   simp [execOp, hop, resolve, invoke, builtin, hX, hn, this]
  unfold Oper.wp
  rw [hrun2]
  exact hK _ _ _ _ _ h hgr.1 hgr.2 (.inr (row_new (if_pos rfl) rfl (by simp [Blk.rows, ints]) (fun c' hc' => by cases hc') hge (fun c' hc' => by cases hc') (fun j hj => by
   have h1 : (w.drew.alloc (.cells cs e)).heap[w.heap.size]? = some (.cells cs e (0, 0)) := heap_alloc_new w.drew _
   have hj : j < cp * i.size := hj
   have h2 : (w.drew.alloc (.cells cs e)).cell? ⟨w.heap.size, 0 + j, none⟩ = cs[0 + j]? := by simp only [World.cell?, h1, Option.isSome_none, Bool.false_eq_true, if_false]
   rw [h2]
   exact ⟨by simp; omega, by simp only [World.frozen?, h1]; simp⟩)))
 ·exact (holds_fail h).elim
end
end Go.Proofs.Ytofdnnjkfpomcaa.E

/- Calls. -/
namespace Go.Proofs.Ytofdnnjkfpomcaa.E
open Go
set_option linter.unusedVariables false
set_option linter.unusedSectionVars false

section
variable {P : Program} {I : Ints} {p : Nat} {E E1 : Env} {m m1 : Mem} {w w1 : World} {ts : List A} {a : Act}
theorem setAll_get : ∀ (σ : List Nat) (r m : List Blk) (id : Nat), σ.Nodup → (∀ b ∈ σ, b < m.length) → σ.length ≤ r.length → (∀ (i : Nat), σ[i]? = some id → (setAll m σ r)[id]? = r[i]?) ∧ (id ∉ σ → (setAll m σ r)[id]? = m[id]?) ∧ (setAll m σ r).length = m.length
 | [], r, m, id, _, _, _ => by
  have : setAll m [] r = m := by cases r <;> rfl
  exact ⟨fun i h => by simp at h, fun _ => by rw [this], by rw [this]⟩
 | b :: σ, [], m, id, _, _, hl => by simp at hl
 | b :: σ, x :: r, m, id, hn, hb, hl => by
  obtain ⟨h1, h2, h3⟩ := setAll_get σ r (m.set b x) id (List.nodup_cons.1 hn).2 (fun c hc => by simpa using hb c (by simp [hc])) (by simpa using hl)
  have hbn := (List.nodup_cons.1 hn).1
  refine ⟨fun i hi => ?_, fun hni => ?_, by simpa [setAll] using h3⟩
  ·cases i with
   | zero =>
    simp at hi
    subst hi
    rw [setAll, h2 hbn, List.getElem?_set_self (hb b (by simp))]
    rfl
   | succ i => simpa [setAll] using h1 i (by simpa using hi)
  ·simp at hni
   rw [setAll, h2 hni.2, List.getElem?_set_ne (fun e => hni.1 e.symm)]
theorem kill_get : ∀ (fz : List Nat) (m : List Blk) (id : Nat), (id ∈ fz → id < m.length → (kill m fz)[id]? = some .dead) ∧ (id ∉ fz → (kill m fz)[id]? = m[id]?) ∧ (kill m fz).length = m.length
 | [], m, id => ⟨fun h => by simp at h, fun _ => rfl, rfl⟩
 | b :: fz, m, id => by
  obtain ⟨h1, h2, h3⟩ := kill_get fz (m.set b .dead) id
  refine ⟨fun hi hl => ?_, fun hi => ?_, by simpa [kill] using h3⟩
  ·by_cases hf : id ∈ fz
   ·exact h1 hf (by simpa using hl)
   ·simp [hf] at hi
    subst hi
    rw [kill, h2 hf, List.getElem?_set_self hl]
  ·simp at hi
   rw [kill, h2 hi.2, List.getElem?_set_ne (fun e => hi.1 e.symm)]
/-- The memory behind a call, name by name. -/
theorem upMem_get {σ fz : List Nat} (hσ : σ.Nodup) (hb : ∀ b ∈ σ, b < m.length) (hl : σ.length ≤ m1.length) (hfz : ∀ b ∈ fz, b ∉ σ) (id : Nat) :
  (∀ (i : Nat), σ[i]? = some id → (upMem σ fz m m1)[id]? = (m1[i]?).map (Blk.up σ m.length)) ∧ (id < m.length → id ∉ σ → id ∈ fz → (upMem σ fz m m1)[id]? = some .dead) ∧ (id < m.length → id ∉ σ → id ∉ fz → (upMem σ fz m m1)[id]? = m[id]?) ∧
  (∀ (j : Nat), id = m.length + j → (upMem σ fz m m1)[id]? = (m1[σ.length + j]?).map (Blk.up σ m.length)) ∧ (upMem σ fz m m1).length = m.length + (m1.length - σ.length) := by
 obtain ⟨k1, k2, k3⟩ := kill_get fz m id
 obtain ⟨s1, s2, s3⟩ := setAll_get σ ((m1.map (Blk.up σ m.length)).take σ.length) (kill m fz) id hσ (fun b h => by rw [k3]; exact hb b h) (by simp; omega)
 have hlen : (setAll (kill m fz) σ ((m1.map (Blk.up σ m.length)).take σ.length)).length = m.length := by rw [s3, k3]
 refine ⟨fun i hi => ?_, fun h1 h2 h3 => ?_, fun h1 h2 h3 => ?_, fun j hj => ?_, ?_⟩
 ·have hid : id < m.length := hb id (List.mem_of_getElem? hi)
  have hil : i < σ.length := (List.getElem?_eq_some_iff.1 hi).1
  simp only [upMem]
  rw [List.getElem?_append_left (by rw [hlen]; exact hid), s1 i hi, List.getElem?_take, if_pos hil, List.getElem?_map]
 ·simp only [upMem]
  rw [List.getElem?_append_left (by rw [hlen]; exact h1), s2 h2, k1 h3 h1]
 ·simp only [upMem]
  rw [List.getElem?_append_left (by rw [hlen]; exact h1), s2 h2, k2 h3]
 ·simp only [upMem]
  rw [List.getElem?_append_right (by rw [hlen]; omega), hlen, List.getElem?_drop, List.getElem?_map]
  congr 2
  congr 1
  omega
 ·simp only [upMem, List.length_append, hlen, List.length_drop, List.length_map]
theorem up_rows (σ : List Nat) (n : Nat) (b : Blk) : (b.up σ n).rows.length = b.rows.length ∧ (b.up σ n).es = b.es ∧ ((b.up σ n).live ↔ b.live) := by
 cases b <;> simp [Blk.up, Blk.rows, Blk.es, Blk.live]
/-- The env behind a call. -/
def Env.back (E E1 : Env) (n s : Nat) : Env where
 F := E1.F
 B := E.B
 ρ := fun id => if id < n then E.ρ id else E1.ρ (s + (id - n))
section leave
variable {σ fz : List Nat} {B : Nat → Prop} {m0 : Mem}
variable (hs : Sat E m w) (hσ : σ.Nodup) (hb : ∀ b ∈ σ, b < m.length) (hfz : ∀ b ∈ fz, b ∉ σ) (hm : Shape m σ m0) (hBσ : ∀ b, B b → b ∉ σ)
variable (hs1 : Sat E1 m1 w1) (hg : Grow (fun _ => True) (E.ren m σ fz B) m0 w E1 m1 w1)
include hs hσ hb hfz hm hBσ hs1 hg
theorem back_ρ (i : Nat) (hi : i < m1.length) : (E.back E1 m.length σ.length).ρ (up σ m.length i) = E1.ρ i ∧ up σ m.length i < (upMem σ fz m m1).length ∧ (upMem σ fz m m1)[up σ m.length i]? = (m1[i]?).map (Blk.up σ m.length) := by
 have hl : σ.length ≤ m1.length := by rw [← hm.len]; exact hg.len
 unfold up
 cases hq : σ[i]? with
 | some b =>
  have hbm := hb b (List.mem_of_getElem? hq)
  have hil : i < σ.length := (List.getElem?_eq_some_iff.1 hq).1
  obtain ⟨g1, g2, g3, g4, g5⟩ := upMem_get (m1 := m1) hσ hb hl hfz b
  refine ⟨?_, by rw [g5]; simp only; omega, g1 i hq⟩
  have h1 := hg.ρ i (by rw [hm.len]; exact hil)
  rw [h1]
  simp [Env.back, hbm, Env.ren, hq]
 | none =>
  have hil : σ.length ≤ i := by rw [List.getElem?_eq_none_iff] at hq; exact hq
  obtain ⟨g1, g2, g3, g4, g5⟩ := upMem_get (m1 := m1) hσ hb hl hfz (m.length + (i - σ.length))
  refine ⟨?_, by rw [g5]; simp only; omega, ?_⟩
  ·simp only [Env.back]
   rw [if_neg (by omega)]
   congr 1
   omega
  ·rw [g4 (i - σ.length) rfl]
   congr 2
   omega
theorem CRep.back {x : C} {u : Value} (hx : CRep E1 m1 w1 x u) (hf : x.free = true) : CRep (E.back E1 m.length σ.length) (upMem σ fz m m1) w1 (x.up σ m.length) u := by
 have hbk := back_ρ hs hσ hb hfz hm hBσ hs1 hg
 have live : ∀ (i : Nat) (blk' : Blk), i < m1.length → (upMem σ fz m m1)[up σ m.length i]? = some blk' → blk'.live → ∃ blk : Blk, m1[i]? = some blk ∧ blk.live ∧ blk'.rows.length = blk.rows.length ∧ blk'.es = blk.es := fun i blk' hi h hl => by
  rw [(hbk i hi).2.2] at h
  cases hq : m1[i]? with
  | none => simp [hq] at h
  | some blk =>
   simp [hq] at h
   subst h
   obtain ⟨r1, r2, r3⟩ := up_rows σ m.length blk
   exact ⟨blk, rfl, r3.1 hl, r1, r2⟩
 cases x with
 | any => exact hx
 | g x => exact hx
 | bor es l => cases hf
 | gp r j => cases hf
 | ptr b i es j =>
  obtain ⟨h1, a_, base, h2, h3⟩ := hx
  exact ⟨(hbk b h1).2.1, a_, base, by rw [(hbk b h1).1]; exact h2, h3⟩
 | row b es cap =>
  obtain ⟨h1, ho, h2⟩ := hx
  refine ⟨(hbk b h1).2.1, ho, fun blk' h hl => ?_⟩
  obtain ⟨blk, q1, q2, q3, q4⟩ := live b blk' h1 h hl
  rw [q3, q4, (hbk b h1).1]
  exact h2 blk q1 q2
 | sl b i es n cap =>
  obtain ⟨h1, ho, h2⟩ := hx
  refine ⟨(hbk b h1).2.1, ho, fun blk' h hl => ?_⟩
  obtain ⟨blk, q1, q2, q3, q4⟩ := live b blk' h1 h hl
  rw [q3, q4, (hbk b h1).1]
  exact h2 blk q1 q2
 | fn f l =>
  obtain ⟨us, h1, h2, h3⟩ := hx
  refine ⟨us, h1, by simp [h2], fun i b es j hi => ?_⟩
  rw [List.getElem?_map] at hi
  obtain ⟨⟨b0, es0, j0⟩, hi0, he⟩ := Option.map_eq_some_iff.1 hi
  cases he
  obtain ⟨h4, a_, base, h5, h6⟩ := h3 i b0 es0 j0 hi0
  exact ⟨(hbk b0 h4).2.1, a_, base, by rw [(hbk b0 h4).1]; exact h5, h6⟩
 | map b =>
  obtain ⟨h1, a_, base, h2, h3⟩ := hx
  exact ⟨(hbk b h1).2.1, a_, base, by rw [(hbk b h1).1]; exact h2, h3⟩
 | stamp b z =>
  obtain ⟨h1, a_, base, born, es, c, h2, h3⟩ := hx
  exact ⟨(hbk b h1).2.1, a_, base, born, es, c, by rw [(hbk b h1).1]; exact h2, h3⟩
theorem V1Rep.back {x : V1} {u : Value} (hx : V1Rep E1 m1 w1 x u) (hf : x.free = true) : V1Rep (E.back E1 m.length σ.length) (upMem σ fz m m1) w1 (x.up σ m.length) u := by
 cases x with
 | c x =>
  rcases hx with rfl | hx
  ·exact .inl rfl
  ·exact .inr (CRep.back hs hσ hb hfz hm hBσ hs1 hg hx hf)
 | agg l =>
  obtain ⟨cs, h1, h2, h3⟩ := hx
  refine ⟨cs, h1, by simpa using h2, fun i x hi => ?_⟩
  rw [List.getElem?_map] at hi
  cases hq : l[i]? with
  | none => simp [hq] at hi
  | some y =>
   simp [hq] at hi
   subst hi
   obtain ⟨u, q1, q2⟩ := h3 i y hq
   exact ⟨u, q1, CRep.back hs hσ hb hfz hm hBσ hs1 hg q2 (List.all_eq_true.1 hf y (List.mem_of_getElem? hq))⟩
theorem ARep.back {x : A} {u : Value} (hx : ARep E1 m1 w1 x u) (hf : x.free = true) : ARep (E.back E1 m.length σ.length) (upMem σ fz m m1) w1 (x.up σ m.length) u := by
 cases x with
 | one v => exact V1Rep.back hs hσ hb hfz hm hBσ hs1 hg hx hf
 | tup l =>
  obtain ⟨cs, h1, h2, h3⟩ := hx
  refine ⟨cs, h1, by simpa using h2, fun i x hi => ?_⟩
  rw [List.getElem?_map] at hi
  cases hq : l[i]? with
  | none => simp [hq] at hi
  | some y =>
   simp [hq] at hi
   subst hi
   obtain ⟨u, q1, q2⟩ := h3 i y hq
   exact ⟨u, q1, V1Rep.back hs hσ hb hfz hm hBσ hs1 hg q2 (List.all_eq_true.1 hf y (List.mem_of_getElem? hq))⟩
/-- Each live name behind the call: one of the callee's, or one that it has not seen. -/
theorem back_names {id : Nat} {blk' : Blk} (h : (upMem σ fz m m1)[id]? = some blk') (hl : blk'.live) :
  (∃ (i : Nat) (blk : Blk), i < m1.length ∧ id = up σ m.length i ∧ m1[i]? = some blk ∧ blk.live ∧ blk' = blk.up σ m.length ∧ (E.back E1 m.length σ.length).ρ id = E1.ρ i) ∨
  (id < m.length ∧ id ∉ σ ∧ id ∉ fz ∧ m[id]? = some blk' ∧ (E.back E1 m.length σ.length).ρ id = E.ρ id) := by
 have hl1 : σ.length ≤ m1.length := by rw [← hm.len]; exact hg.len
 obtain ⟨g1, g2, g3, g4, g5⟩ := upMem_get (m1 := m1) hσ hb hl1 hfz id
 have hidl : id < m.length + (m1.length - σ.length) := by rw [← g5]; exact (List.getElem?_eq_some_iff.1 h).1
 have fin : ∀ i, i < m1.length → id = up σ m.length i → (upMem σ fz m m1)[id]? = (m1[i]?).map (Blk.up σ m.length) → ∃ (i : Nat) (blk : Blk), i < m1.length ∧ id = up σ m.length i ∧ m1[i]? = some blk ∧ blk.live ∧ blk' = blk.up σ m.length ∧ (E.back E1 m.length σ.length).ρ id = E1.ρ i := by
  intro i hi e hq
  rw [h] at hq
  cases hq1 : m1[i]? with
  | none => simp [hq1] at hq
  | some blk =>
   simp [hq1] at hq
   subst hq
   refine ⟨i, blk, hi, e, hq1, (up_rows σ m.length blk).2.2.1 hl, rfl, ?_⟩
   rw [e]
   exact (back_ρ hs hσ hb hfz hm hBσ hs1 hg i hi).1
 by_cases hid : id < m.length
 ·by_cases hσi : id ∈ σ
  ·obtain ⟨i, hi⟩ := List.mem_iff_getElem?.1 hσi
   have hil : i < σ.length := (List.getElem?_eq_some_iff.1 hi).1
   exact .inl (fin i (by omega) (by simp [up, hi]) (g1 i hi))
  ·by_cases hf : id ∈ fz
   ·rw [g2 hid hσi hf] at h
    cases h
    exact hl.elim
   ·rw [g3 hid hσi hf] at h
    exact .inr ⟨hid, hσi, hf, h, by simp [Env.back, hid]⟩
 ·refine .inl (fin (σ.length + (id - m.length)) (by omega) ?_ (g4 (id - m.length) (by omega)))
  unfold up
  rw [List.getElem?_eq_none (by omega)]
  simp only
  omega
theorem back_foot {k : Nat} (h : Foot (fun _ => True) (E.ren m σ fz B) m0 k) : ∃ (b : Nat) (blk : Blk) (x : Nat), b ∈ σ ∧ m[b]? = some blk ∧ blk.live ∧ E.ρ b = some (k, x) := by
 obtain ⟨i, blk0, x, h1, h2, _, h3⟩ := h
 cases hq : σ[i]? with
 | none => simp [Env.ren, hq] at h3
 | some b =>
  obtain ⟨blk, q1, q2, _, _⟩ := hm.get i b blk0 hq h1 h2
  exact ⟨b, blk, x, List.mem_of_getElem? hq, q1, q2, by simpa [Env.ren, hq] using h3⟩
theorem back_step : Step E m w (E.back E1 m.length σ.length) (upMem σ fz m m1) w1 where
 F := fun k hk => hg.F k (.inl hk)
 B := fun k hk => hk
 ρ := fun id hid => by simp [Env.back, hid]
 len := by
  have hl1 : σ.length ≤ m1.length := by rw [← hm.len]; exact hg.len
  rw [(upMem_get (m1 := m1) hσ hb hl1 hfz 0).2.2.2.2]
  omega
 shape := fun id blk' hid h hl => by
  rcases back_names hs hσ hb hfz hm hBσ hs1 hg h hl with ⟨i, blk, hi, e, h1, h2, rfl, _⟩ | ⟨_, _, _, h1, _⟩
  ·cases hq : σ[i]? with
   | none =>
    unfold up at e
    rw [hq] at e
    simp only at e
    omega
   | some b =>
    have : id = b := by rw [e]; simp [up, hq]
    subst this
    obtain ⟨blk0, q1, q2, q3, q4⟩ := hg.shape i blk (by rw [hm.len]; exact (List.getElem?_eq_some_iff.1 hq).1) h1 h2
    obtain ⟨blk2, r1, r2, r3, r4⟩ := hm.get i id blk0 hq q1 q2
    obtain ⟨t1, t2, _⟩ := up_rows σ m.length blk
    exact ⟨blk2, r1, r2, by rw [t1, q3, r3], by rw [t2, q4, r4]⟩
  ·exact ⟨blk', h1, hl, rfl, rfl⟩
 frz := fun k hk => hg.frz k (hk.imp .inl .inl)
 stays := hg.stays
theorem back_old {id : Nat} {blk : Blk} {a_ x : Nat} (h1 : id ∉ σ) (h2 : m[id]? = some blk) (h3 : blk.live) (h4 : E.ρ id = some (a_, x)) : a_ < w.heap.size ∧ w1.heap[a_]? = w.heap[a_]? := by
 have hlt := blk_lt hs h2 h3 h4
 refine ⟨hlt, hg.block a_ hlt (fun hf => ?_)⟩
 obtain ⟨b, blk', x', q1, q2, q3, q4⟩ := back_foot hs hσ hb hfz hm hBσ hs1 hg hf
 obtain rfl := hs.inj id b blk blk' a_ x x' h2 q2 h3 q3 h4 q4
 exact h1 q1
/-- A block of one of the callee's live names is none of a name that it has not seen. -/
theorem back_apart {i id : Nat} {b1 blk : Blk} {a_ x y : Nat} (h1 : m1[i]? = some b1) (h2 : b1.live) (h3 : E1.ρ i = some (a_, x)) (h4 : id ∉ σ) (h5 : m[id]? = some blk) (h6 : blk.live) (h7 : E.ρ id = some (a_, y)) : False := by
 have hlt := blk_lt hs h5 h6 h7
 have nofoot : ¬ Foot (fun _ => True) (E.ren m σ fz B) m0 a_ := fun hf => by
  obtain ⟨b, blk', x', q1, q2, q3, q4⟩ := back_foot hs hσ hb hfz hm hBσ hs1 hg hf
  obtain rfl := hs.inj id b blk blk' a_ y x' h5 q2 h6 q3 h7 q4
  exact h4 q1
 rcases Nat.lt_or_ge i m0.length with hi | hi
 ·obtain ⟨blk0, q1, q2, _, _⟩ := hg.shape i b1 hi h1 h2
  exact nofoot ⟨i, blk0, x, q1, q2, trivial, (hg.ρ i hi) ▸ h3⟩
 ·rcases hg.newρ i a_ x b1 hi h1 h2 h3 with h | h
  ·omega
  ·exact nofoot h
theorem back_sat (hfree : ∀ (id : Nat) (blk : Blk), m1[id]? = some blk → blk.free = true) : Sat (E.back E1 m.length σ.length) (upMem σ fz m m1) w1 := by
 have step := back_step hs hσ hb hfz hm hBσ hs1 hg
 have names := fun {id : Nat} {blk' : Blk} (h : (upMem σ fz m m1)[id]? = some blk') (hl : blk'.live) => back_names hs hσ hb hfz hm hBσ hs1 hg h hl
 refine ⟨fun id blk' h hl => ?_, fun i j bi bj a_ x y hi hj li lj ei ej => ?_, fun id bi a_ x h hl ei => ?_, fun k hk => ?_, fun id ag l h => ?_⟩
 ·rcases names h hl with ⟨i, blk, hi, _, h1, h2, rfl, h3⟩ | ⟨_, h1, _, h2, h3⟩
  ·rw [h3]
   obtain ⟨r1, r2, r3⟩ := up_rows σ m.length blk
   have hfr := hfree i blk h1
   rcases hs1.rep i blk h1 h2 with ⟨e, h4⟩ | ⟨a_, base, e, g1, g2, g3⟩
   ·exact .inl ⟨e, List.eq_nil_of_length_eq_zero (by rw [r1, h4]; rfl)⟩
   ·refine .inr ⟨a_, base, e, by rw [r1, r2]; exact g1, g2, fun q row hq => ?_⟩
    rw [r2]
    cases blk with
    | dead => exact h2.elim
    | lit es rows =>
     simp only [Blk.up, Blk.rows, List.getElem?_map] at hq
     cases hr : rows[q]? with
     | none => simp [hr] at hq
     | some row0 =>
      simp [hr] at hq
      subst hq
      obtain ⟨k1, k2⟩ := g3 q row0 hr
      refine ⟨by simpa using k1, fun j x hj => ?_⟩
      rw [List.getElem?_map] at hj
      cases hy : row0[j]? with
      | none => simp [hy] at hj
      | some y =>
       simp [hy] at hj
       subst hj
       obtain ⟨u, k3, k4⟩ := k2 j y hy
       exact ⟨u, k3, CRep.back hs hσ hb hfz hm hBσ hs1 hg k4 (List.all_eq_true.1 (List.all_eq_true.1 hfr row0 (List.mem_of_getElem? hr)) y (List.mem_of_getElem? hy))⟩
    | sym es l =>
     obtain ⟨k1, k2⟩ := g3 q row hq
     refine ⟨k1, fun j x hj => ?_⟩
     obtain ⟨u, k3, k4⟩ := k2 j x hj
     simp only [Blk.up, Blk.rows, List.getElem?_map] at hq
     cases hr : l[q]? with
     | none => simp [hr] at hq
     | some r =>
      simp [hr] at hq
      subst hq
      rw [List.getElem?_map] at hj
      cases hy : r[j]? with
      | none => simp [hy] at hj
      | some g =>
       simp [hy] at hj
       subst hj
       exact ⟨u, k3, k4⟩
    | mp ag l => simp [Blk.up, Blk.rows] at hq
  ·rw [h3]
   rcases hs.rep id blk' h2 hl with h4 | ⟨a_, base, e, g1, g2, g3⟩
   ·exact .inl h4
   ·rw [e]
    exact BRep.step_rep step (back_old hs hσ hb hfz hm hBσ hs1 hg h1 h2 hl e).2 hg.size (fun _ => .inr ⟨a_, base, rfl, g1, g2, g3⟩) hl
 ·rcases names hi li with ⟨i', b1, _, e1, p1, p2, _, p3⟩ | ⟨_, p1, _, p2, p3⟩ <;> rcases names hj lj with ⟨j', b2, _, e2, q1, q2, _, q3⟩ | ⟨_, q1, _, q2, q3⟩
  ·rw [p3] at ei
   rw [q3] at ej
   rw [e1, e2, hs1.inj i' j' b1 b2 a_ x y p1 q1 p2 q2 ei ej]
  ·rw [p3] at ei
   rw [q3] at ej
   exact (back_apart hs hσ hb hfz hm hBσ hs1 hg p1 p2 ei q1 q2 lj ej).elim
  ·rw [p3] at ei
   rw [q3] at ej
   exact (back_apart hs hσ hb hfz hm hBσ hs1 hg q1 q2 ej p1 p2 li ei).elim
  ·rw [p3] at ei
   rw [q3] at ej
   exact hs.inj i j bi bj a_ x y p2 q2 li lj ei ej
 ·rcases names h hl with ⟨i', b1, _, e1, p1, p2, _, p3⟩ | ⟨_, p1, p0, p2, p3⟩
  ·rw [p3] at ei
   obtain ⟨d1, d2⟩ := hs1.dis i' b1 a_ x p1 p2 ei
   exact ⟨d1, fun hB => d2 (hg.B _ (.inl hB))⟩
  ·rw [p3] at ei
   obtain ⟨d1, d2⟩ := hs.dis id bi a_ x p2 hl ei
   have hlt := blk_lt hs p2 hl ei
   refine ⟨fun hF => ?_, d2⟩
   rcases hg.newF a_ hF with (hF | ⟨c, blk, x', q1, q2, q3, q4⟩) | hF | hF
   ·exact d1 hF
   ·obtain rfl := hs.inj id c bi blk a_ x x' p2 q1 hl q2 ei q4
    exact p0 q3
   ·omega
   ·obtain ⟨b, blk', x', q1, q2, q3, q4⟩ := back_foot hs hσ hb hfz hm hBσ hs1 hg hF
    obtain rfl := hs.inj id b bi blk' a_ x x' p2 q2 hl q3 ei q4
    exact p1 q1
 ·rcases hk with hk | hk
  ·exact hs1.old k (.inl hk)
  ·exact Nat.lt_of_lt_of_le (hs.old k (.inr hk)) hg.size
 ·rcases names h trivial with ⟨i, blk, hi, _, h1, h2, e, h3⟩ | ⟨_, h1, _, h2, h3⟩
  ·cases blk with
   | mp ag' l' =>
    cases e
    obtain ⟨a_, e, hlt, hm⟩ := hs1.maps i ag l h1
    exact ⟨a_, h3.trans e, hlt, hm⟩
   | _ => cases e
  ·obtain ⟨a_, e, hlt, hm⟩ := hs.maps id ag l h2
   exact ⟨a_, h3.trans e, Nat.lt_of_lt_of_le hlt hg.size, hm.step (fun k hk => step.F k hk) (fun k hk => step.frz k (.inl hk)) (back_old hs hσ hb hfz ‹Shape m σ m0› hBσ hs1 hg h1 h2 trivial e).2⟩
theorem back_grow {Wt : Nat → Prop} (hW : ∀ b ∈ σ, Wt b) : Grow Wt E m w (E.back E1 m.length σ.length) (upMem σ fz m m1) w1 where
 toStep := back_step hs hσ hb hfz hm hBσ hs1 hg
 B' := fun k hk => hk
 os := hg.os
 tape := hg.tape
 output := hg.output
 size := hg.size
 block := fun k hk hn => hg.block k hk (fun hf => by
  obtain ⟨b, blk', x', q1, q2, q3, q4⟩ := back_foot hs hσ hb hfz hm hBσ hs1 hg hf
  exact hn ⟨b, blk', x', q2, q3, hW b q1, q4⟩)
 newF := fun k hk => by
  rcases hg.newF k hk with (hF | ⟨c, blk, x', q1, q2, q3, q4⟩) | hF | hF
  ·exact .inl hF
  ·exact .inr (.inr ⟨c, blk, x', q1, q2, trivial, q4⟩)
  ·exact .inr (.inl hF)
  ·obtain ⟨b, blk', x', q1, q2, q3, q4⟩ := back_foot hs hσ hb hfz hm hBσ hs1 hg hF
   exact .inr (.inr ⟨b, blk', x', q2, q3, trivial, q4⟩)
 newρ := fun id a_ x blk' hid h hl e => by
  rcases back_names hs hσ hb hfz hm hBσ hs1 hg h hl with ⟨i, blk, hi, e', h1, h2, _, h3⟩ | ⟨h1, _⟩
  ·rw [h3] at e
   have hm0 : m0.length ≤ i := by
    rw [hm.len]
    rcases Nat.lt_or_ge i σ.length with hlt | hge
    ·have hq : σ[i]? = some σ[i] := List.getElem?_eq_getElem hlt
     have : up σ m.length i = σ[i] := by simp [up, hq]
     rw [this] at e'
     have := hb σ[i] (List.getElem_mem hlt)
     omega
    ·exact hge
   rcases hg.newρ i a_ x blk hm0 h1 h2 e with h | h
   ·exact .inl h
   ·obtain ⟨b, blk', x', q1, q2, q3, q4⟩ := back_foot hs hσ hb hfz hm hBσ hs1 hg h
    exact .inr ⟨b, blk', x', q2, q3, hW b q1, q4⟩
  ·omega
end leave
variable {wr : Option (List Nat × Nat)} {er : Bool} {o : Oper} {k : A → Mem → Tree} {Q : Exit → Act → World → Prop}
theorem ev1s_inv : ∀ {l : List Operand} {xs : List Opd} {k : List V1 → Tree}, opds l = some xs → At E m w ts a → Holds P I p (ev1s ts xs k) → ∃ vs : List V1, vs.length = l.length ∧ (∀ (j : Nat) (X : Operand), l[j]? = some X → ∃ v, vs[j]? = some v ∧ V1Rep E m w v (a.eval X)) ∧ Holds P I p (k vs)
 | [], xs, k, ho, hA, h => by
  cases ho
  exact ⟨[], rfl, fun j X hj => by simp at hj, h⟩
 | X :: r, xs, k, ho, hA, h => by
  simp only [opds] at ho
  split at ho
  ·rename_i x l hx hl
   cases ho
   obtain ⟨v, hv, h⟩ := ev1_inv hx hA h
   obtain ⟨vs, h1, h2, h⟩ := ev1s_inv hl hA h
   refine ⟨v :: vs, by simp [h1], fun j Y hj => ?_, h⟩
   cases j with
   | zero => simp at hj; subst hj; exact ⟨v, rfl, hv⟩
   | succ j => simpa using h2 j Y (by simpa using hj)
  ·cases ho
theorem invArgs_get (σ : List Nat) : ∀ (qs : List How) (l : List V1), (invArgs I σ m qs l).length = l.length ∧ ∀ (j : Nat) (v : V1), l[j]? = some v → (invArgs I σ m qs l)[j]? = some (v.inv I σ (qs.getD j .keep) m)
 | qs, [] => by cases qs <;> exact ⟨rfl, fun j v h => by simp at h⟩
 | [], x :: l => by
  obtain ⟨h1, h2⟩ := invArgs_get σ [] l
  refine ⟨by simp [invArgs, h1], fun j v hj => ?_⟩
  cases j with
  | zero => simp at hj; subst hj; rfl
  | succ j => simpa [invArgs] using h2 j v (by simpa using hj)
 | q :: qs, x :: l => by
  obtain ⟨h1, h2⟩ := invArgs_get σ qs l
  refine ⟨by simp [invArgs, h1], fun j v hj => ?_⟩
  cases j with
  | zero => simp at hj; subst hj; rfl
  | succ j => simpa [invArgs] using h2 j v (by simpa using hj)
theorem plain_rep1 {E' : Env} {m' : Mem} {w' : World} {v : V1} {u : Value} (hp : v.plain = true) (h : V1Rep E' m' w' v u) : V1Rep E m w v u := by
 cases v with
 | agg l => cases hp
 | c x =>
  cases x with
  | g x =>
   rcases h with h | h
   ·cases h
   ·refine .inr ?_
    cases x with
    | bool b => generalize u = u' at h; cases h; exact .bool b
    | int k z => generalize u = u' at h; cases h; exact .int k z
    | str s => generalize u = u' at h; cases h; exact .str s
    | nilp => generalize u = u' at h; cases h; exact .nilp
    | nil => generalize u = u' at h; cases h; exact .nil
    | rows es l => cases hp
  | _ => cases hp
theorem plain_rep {E' : Env} {m' : Mem} {w' : World} {v : A} {u : Value} (hp : v.plain = true) (h : ARep E' m' w' v u) : ARep E m w v u := by
 cases v with
 | one v => exact plain_rep1 hp h
 | tup l =>
  obtain ⟨us, h1, h2, h3⟩ := h
  refine ⟨us, h1, h2, fun i v hi => ?_⟩
  obtain ⟨u, q1, q2⟩ := h3 i v hi
  exact ⟨u, q1, plain_rep1 (List.all_eq_true.1 hp v (List.mem_of_getElem? hi)) q2⟩
/-- A call that reads: what there is told as frozen, for the call alone. -/
theorem callR_core {f : FuncId} {vals : Array Value} {vs : List V1} (hI : I = ints) (hA : At E m w ts a) (hrun : (execOp a.eval o).run P w = .ok (.enter f vals) w) (hsz : vals.size = vs.length) (v2 : ∀ (i : Nat) (v : V1), vs[i]? = some v → ∃ u, vals[i]? = some u ∧ V1Rep E m w v u)
  {σ1 fz1 fz : List Nat} {qs : List How} {args' : List V1} {R : A → Mem → Prop} (hc : LValid P f args' [] R) (hσ : σ1.Nodup) (hq : ∀ q ∈ qs, ∀ l, q = .frz l → ∀ b ∈ l, b ∈ fz)
  (ha : args' = invArgs I [] (invMem I σ1 (.frz fz1) m) qs (vs.map (V1.inv I σ1 (.frz fz1) m))) (hp : ∀ v m1, R v m1 → v.plain = true) (h : ∀ v m1, R v m1 → Holds P I p (k v m)) : LRes P I p E m w wr a o k Q := by
 intro K hK
 unfold Oper.wp
 rw [hrun]
 have hfz1 : ∀ l, How.frz fz1 = .frz l → ∀ b ∈ l, b ∉ σ1 → b ∈ fz1.filter (fun b => !σ1.contains b) := fun l e b hb hn => by
  cases e
  simp [hb, hn]
 have hB1 : ∀ es, How.frz fz1 = .bor es → ∀ b, b ∉ σ1 → (fun _ : Nat => False) b := fun es e => by cases e
 have hfσ1 : ∀ b ∈ fz1.filter (fun b => !σ1.contains b), b ∉ σ1 := fun b hb => by
  simp at hb
  exact hb.2
 have hsh1 := inv_shape (I := I) σ1 (.frz fz1) m
 have hs1 := Sat.inv hI hA.sat hσ hfz1 hB1 (fun _ h => h.elim) hfσ1
 have hv1 : ∀ (v : V1) (u : Value), V1Rep E m w v u → V1Rep (E.ren m σ1 (fz1.filter (fun b => !σ1.contains b)) (fun _ => False)) (invMem I σ1 (.frz fz1) m) w (v.inv I σ1 (.frz fz1) m) u := fun v u hv => V1Rep.inv hI hA.sat hfz1 hB1 hsh1 hv
 generalize E.ren m σ1 (fz1.filter (fun b => !σ1.contains b)) (fun _ => False) = E1 at hs1 hv1
 generalize hm1 : invMem I σ1 (.frz fz1) m = m1 at hs1 hv1 ha
 have hs2 : Sat (E1.ren m1 [] fz (fun _ => True)) [] w := Sat.inv (q := .keep) (I := I) hI hs1 List.nodup_nil (fun l e => by cases e) (fun es e => by cases e) (fun b _ => by simp) (fun b _ => by simp)
 have hsh2 : Shape m1 [] [] := inv_shape (I := I) [] .keep m1
 obtain ⟨i1, i2⟩ := invArgs_get (I := I) (m := m1) [] qs (vs.map (V1.inv I σ1 (.frz fz1) m))
 have hcall := hc _ w vals hs2 (by rw [ha, i1]; simpa using hsz) (fun i x hi => by
  have hil : i < vs.length := by
   have := (List.getElem?_eq_some_iff.1 hi).1
   rw [ha, i1] at this
   simpa using this
  have hX : vs[i]? = some vs[i] := List.getElem?_eq_getElem hil
  obtain ⟨u, q1, q2⟩ := v2 i _ hX
  rw [ha, i2 i (vs[i].inv I σ1 (.frz fz1) m) (by rw [List.getElem?_map, hX]; rfl)] at hi
  cases hi
  refine ⟨u, q1, ?_⟩
  refine V1Rep.inv hI hs1 (fun l e b hb _ => ?_) (fun es e b hb => trivial) hsh2 (hv1 _ _ q2)
  by_cases hlt : i < qs.length
  ·exact hq (qs.getD i .keep) (by rw [List.getD_eq_getElem?_getD, List.getElem?_eq_getElem hlt]; exact List.getElem_mem hlt) l e b hb
  ·rw [List.getD_eq_getElem?_getD, List.getElem?_eq_none (by omega)] at e
   cases e)
 refine Calls.mono hcall ?_
 rintro e w1 ⟨u, v, m2, E2, rfl, hR, hv, hvf, hmf, hs3, hg⟩
 have hbl : ∀ k, k < w.heap.size → w1.heap[k]? = w.heap[k]? := fun k hk => hg.block k hk (fun ⟨id, blk, x, h1, _⟩ => by simp at h1)
 have step : Step E m w E m w1 := { Step.refl E m w with frz := fun k hk => hbl k (hA.sat.old k hk), stays := hg.stays }
 have grow : Grow (fun b => okW wr b = true) E m w E m w1 := { Grow.refl (fun b => okW wr b = true) E m w with toStep := step, os := hg.os, tape := hg.tape, output := hg.output, size := hg.size, block := fun k hk _ => hbl k hk }
 have sat : Sat E m w1 := by
  refine ⟨fun id blk hb hl => ?_, hA.sat.inj, hA.sat.dis, fun k hk => Nat.lt_of_lt_of_le (hA.sat.old k hk) hg.size, fun id ag l hb => ?_⟩
  ·rcases hA.sat.rep id blk hb hl with h1 | ⟨a_, base, e, g1, g2, g3⟩
   ·exact .inl h1
   ·rw [e]
    exact BRep.step_rep step (hbl a_ g2) hg.size (fun _ => .inr ⟨a_, base, rfl, g1, g2, g3⟩) hl
  ·obtain ⟨a_, e, hlt, hm⟩ := hA.sat.maps id ag l hb
   exact ⟨a_, e, Nat.lt_of_lt_of_le hlt hg.size, MapAt.step (fun _ h => h) (fun k hk => hbl k (hA.sat.old k (.inl hk))) (hbl a_ hlt) hm⟩
 exact hK _ _ _ _ _ (h v m2 hR) grow sat (plain_rep (hp v m2 hR) hv)
theorem call_core {f : FuncId} {vals : Array Value} {vs : List V1} (hI : I = ints) (hA : At E m w ts a) (hrun : (execOp a.eval o).run P w = .ok (.enter f vals) w) (hsz : vals.size = vs.length) (v2 : ∀ (i : Nat) (v : V1), vs[i]? = some v → ∃ u, vals[i]? = some u ∧ V1Rep E m w v u)
  (h : Holds P I p (.call f vs m wr k)) : LRes P I p E m w wr a o k Q := by
 cases h with
 | callR σ1 fz1 fz qs args' R hc hσ hq ha hp h => exact callR_core hI hA hrun hsz v2 hc hσ hq ha hp h
 | call σ fz qs args' m0 R hc hσ hw hfz hq ha hm h =>
 intro K hK
 unfold Oper.wp
 rw [hrun]
 have hbor : ∀ (q : How) (es : Nat), q = .bor es → ∀ b, b ∉ σ → (fun b => b ∉ σ) b := fun _ _ _ b hb => hb
 have hs0 : Sat (E.ren m σ fz (fun b => b ∉ σ)) m0 w := by
  rw [hm]
  exact Sat.inv hI hA.sat hσ (fun l e => by cases e) (fun es e => by cases e) (fun b hb => hb) hfz
 have hsh : Shape m σ m0 := by rw [hm]; exact inv_shape σ .keep m
 obtain ⟨i1, i2⟩ := invArgs_get (I := I) (m := m) σ qs vs
 have hcall := hc (E.ren m σ fz (fun b => b ∉ σ)) w vals hs0 (by rw [ha, i1]; exact hsz) (fun i x hi => by
  have hil : i < vs.length := by
   have := (List.getElem?_eq_some_iff.1 hi).1
   rw [ha, i1] at this
   exact this
  have hX : vs[i]? = some vs[i] := List.getElem?_eq_getElem hil
  obtain ⟨u, q1, q2⟩ := v2 i _ hX
  rw [ha, i2 i _ hX] at hi
  cases hi
  refine ⟨u, q1, ?_⟩
  refine V1Rep.inv hI hA.sat (fun l e b hb _ => ?_) (fun es e b hb => hb) hsh q2
  by_cases hlt : i < qs.length
  ·exact hq (qs.getD i .keep) (by rw [List.getD_eq_getElem?_getD, List.getElem?_eq_getElem hlt]; exact List.getElem_mem hlt) l e b hb
  ·rw [List.getD_eq_getElem?_getD, List.getElem?_eq_none (by omega)] at e
   cases e)
 refine Calls.mono hcall ?_
 rintro e w1 ⟨u, v, m1, E1, rfl, hR, hv, hvf, hmf, hs1, hg⟩
 have hσm : ∀ b ∈ σ, b < m.length := fun b hb => (hw b (by simp [hb])).2
 exact hK _ _ _ _ _ (h v m1 hR) (back_grow hA.sat hσ hσm hfz hsh (fun b hb => hb) hs1 hg (fun b hb => (hw b (by simp [hb])).1)) (back_sat hA.sat hσ hσm hfz hsh (fun b hb => hb) hs1 hg hmf) (ARep.back hA.sat hσ hσm hfz hsh (fun b hb => hb) hs1 hg hv hvf)
theorem l_call {f : FuncId} {fn : Func} {args : Array Operand} {ats : Array TypeId} {l : List Opd} (hI : I = ints) (hop : o.op = .call { callee := .value (.func f), args := args, argTypes := ats }) (hf : P.funcs[f]? = some fn) (hn : (fn.name == "runtime.NumGoroutine") = false) (hb : fn.body.isSome = true)
  (hl : opds args.toList = some l) (hA : At E m w ts a) (h9 : Holds P I p (evOp I er wr (.call f l) ts m k)) : LRes P I p E m w wr a o k Q := by
 obtain ⟨vs, v1, v2, h⟩ := ev1s_inv hl hA h9
 clear h9
 have hrun : (execOp a.eval o).run P w = .ok (.enter f (args.map a.eval)) w := by
  have hn' : ¬ (fn.name = "runtime.NumGoroutine") := by simpa using hn
  simp [execOp, hop, resolve, Deferred.ofValue, invoke, callFunc, Act.eval, hf, hn', program, Sem.run]
  intro hnone
  rw [hnone] at hb
  cases hb
 refine call_core hI hA hrun (by rw [v1]; simp) (fun i v hi => ?_) h
 have hil : i < args.toList.length := by rw [← v1]; exact (List.getElem?_eq_some_iff.1 hi).1
 obtain ⟨v', q1, q2⟩ := v2 i _ (List.getElem?_eq_getElem hil)
 rw [hi] at q1
 cases q1
 refine ⟨_, ?_, q2⟩
 simp at hil
 simp [hil]
theorem capsOf_rep : ∀ {vs : List V1} {l : List (Nat × Nat × Nat)} {us : List Value}, capsOf vs = some l → us.length = vs.length → (∀ (i : Nat) (v : V1), vs[i]? = some v → ∃ u, us[i]? = some u ∧ V1Rep E m w v u) →
  us.length = l.length ∧ ∀ (i b es j : Nat), l[i]? = some (b, es, j) → b < m.length ∧ ∃ a_ base, E.ρ b = some (a_, base) ∧ us[i]? = some (.pointer (some (at_ a_ (base + (0 * es + j)))))
 | [], l, us, h, hl, hr => by cases h; exact ⟨by simpa using hl, fun i b es j h => by simp at h⟩
 | v :: r, l, us, h, hl, hr => by
  unfold capsOf at h
  split at h
  ·cases ‹_ :: _ = ([] : List V1)›
  ·rename_i b es j r' e
   cases e
   split at h
   ·rename_i l2 h2
    cases h
    cases us with
    | nil => simp at hl
    | cons u us =>
     obtain ⟨g1, g2⟩ := capsOf_rep (us := us) h2 (by simpa using hl) (fun i v hi => by simpa using hr (i + 1) v (by simpa using hi))
     refine ⟨by simp [g1], fun i b' es' j' hi => ?_⟩
     cases i with
     | zero =>
      simp at hi
      obtain ⟨rfl, rfl, rfl⟩ := hi
      obtain ⟨u', q1, q2⟩ := hr 0 _ rfl
      simp at q1
      subst q1
      rcases q2 with q2 | ⟨q2, a_, base, q3, q4⟩
      ·cases q2
      ·exact ⟨q2, a_, base, q3, by rw [q4]; rfl⟩
     | succ i => simpa using g2 i b' es' j' (by simpa using hi)
   ·cases h
  ·cases h
theorem capsIn_rep : ∀ {l : List (Nat × Nat × Nat)} {us : List Value}, us.length = l.length → (∀ (i b es j : Nat), l[i]? = some (b, es, j) → b < m.length ∧ ∃ a_ base, E.ρ b = some (a_, base) ∧ us[i]? = some (.pointer (some (at_ a_ (base + (0 * es + j)))))) →
  (capsIn l).length = us.length ∧ ∀ (i : Nat) (v : V1), (capsIn l)[i]? = some v → ∃ u, us[i]? = some u ∧ V1Rep E m w v u
 | [], us, hl, h => ⟨by simpa [capsIn] using hl.symm, fun i v h => by simp [capsIn] at h⟩
 | (b, es, j) :: r, us, hl, h => by
  cases us with
  | nil => simp at hl
  | cons u us =>
   obtain ⟨g1, g2⟩ := capsIn_rep (l := r) (us := us) (by simpa using hl) (fun i b es j hi => by simpa using h (i + 1) b es j (by simpa using hi))
   refine ⟨by simp [capsIn, g1], fun i v hi => ?_⟩
   cases i with
   | zero =>
    simp [capsIn] at hi
    subst hi
    obtain ⟨q1, a_, base, q2, q3⟩ := h 0 b es j rfl
    simp at q3
    exact ⟨u, rfl, .inr ⟨q1, a_, base, q2, by rw [q3]; simp [NN.val]⟩⟩
   | succ i => simpa using g2 i v (by simpa [capsIn] using hi)
theorem l_makeFunc {f : FuncId} {first caps : Array Operand} {l : List Opd} (hop : o.op = .makeFunc (.func f) first caps) (hf : first.isEmpty = true) (hl : opds caps.toList = some l) (hA : At E m w ts a) (h : Holds P I p (evOp I er wr (.makeFunc f l) ts m k)) : LRes P I p E m w wr a o k Q := by
 obtain ⟨vs, v1, v2, h⟩ := ev1s_inv hl hA h
 split at h
 ·rename_i cs hc
  obtain ⟨g1, g2⟩ := capsOf_rep (us := caps.toList.map a.eval) hc (by rw [List.length_map, v1]) (fun i v hi => by
   have hil : i < caps.toList.length := by rw [← v1]; exact (List.getElem?_eq_some_iff.1 hi).1
   obtain ⟨v', q1, q2⟩ := v2 i _ (List.getElem?_eq_getElem hil)
   rw [hi] at q1
   cases q1
   exact ⟨_, by rw [List.getElem?_map, List.getElem?_eq_getElem hil]; rfl, q2⟩)
  obtain rfl : first = #[] := by simpa using hf
  intro K hK
  have hrun : (execOp a.eval o).run P w = .ok (.value (.func (.func f) #[] (caps.map a.eval))) w := by
   simp [execOp, hop, Instr.makeFunc]
  unfold Oper.wp
  rw [hrun]
  refine hK _ _ _ _ _ h (Grow.refl _ _ _ _) hA.sat (.inr ⟨caps.map a.eval, rfl, by simpa using g1, fun i b es j hi => ?_⟩)
  obtain ⟨q1, a_, base, q2, q3⟩ := g2 i b es j hi
  exact ⟨q1, a_, base, q2, by rw [← q3, ← Array.getElem?_toList, Array.toList_map]⟩
 ·exact (holds_fail h).elim
theorem l_callV {t : Nat} {args : Array Operand} {ats : Array TypeId} {l : List Opd} (hI : I = ints) (hop : o.op = .call { callee := .value (.tmp t), args := args, argTypes := ats })
  (hl : opds args.toList = some l) (hA : At E m w ts a) (h9 : Holds P I p (evOp I er wr (.callV (.tmp t) l) ts m k)) : LRes P I p E m w wr a o k Q := by
 obtain ⟨c, hc, h⟩ := evC_inv (X := .tmp t) rfl hA h9
 clear h9
 split at h
 ·rename_i f caps
  obtain ⟨vs, v1, v2, h⟩ := ev1s_inv hl hA h
  cases h with
  | fnok h1 h =>
  rcases hc with hc | ⟨us, hu, hz, hc⟩
  ·cases hc
  unfold callable at h1
  split at h1
  ·rename_i fn hf
   simp only [Bool.and_eq_true, Bool.not_eq_true', beq_eq_false_iff_ne, ne_eq] at h1
   obtain ⟨hn, hb⟩ := h1
   have hrun : (execOp a.eval o).run P w = .ok (.enter f (args.map a.eval ++ us)) w := by
    simp [execOp, hop, resolve, hu, Deferred.ofValue, invoke, callFunc, hf, hn, program, Sem.run]
    intro hnone
    rw [hnone] at hb
    cases hb
   obtain ⟨c1, c2⟩ := capsIn_rep (us := us.toList) (l := caps) (w := w) (by simpa using hz) (fun i b es j hi => by
    obtain ⟨q1, a_, base, q2, q3⟩ := hc i b es j hi
    exact ⟨q1, a_, base, q2, by rw [Array.getElem?_toList]; exact q3⟩)
   refine call_core hI hA hrun (by simp [c1, v1]) (fun i v hi => ?_) h
   rcases Nat.lt_or_ge i vs.length with hlt | hge
   ·rw [List.getElem?_append_left hlt] at hi
    have hil : i < args.toList.length := by rw [← v1]; exact hlt
    obtain ⟨v', q1, q2⟩ := v2 i _ (List.getElem?_eq_getElem hil)
    rw [hi] at q1
    cases q1
    refine ⟨_, ?_, q2⟩
    rw [Array.getElem?_append_left (by simpa using hil)]
    simp at hil
    simp [hil]
   ·rw [List.getElem?_append_right hge] at hi
    obtain ⟨u, q1, q2⟩ := c2 _ v hi
    refine ⟨u, ?_, q2⟩
    have hsz : (args.map a.eval).size = vs.length := by rw [v1]; simp
    rw [Array.getElem?_append_right (by rw [hsz]; exact hge), hsz, ← Array.getElem?_toList]
    exact q1
  ·cases h1
 ·exact (holds_fail h).elim
/-- **Operations that may change the memory, all of them.** -/
theorem loud_sim {x : XOp} (hI : I = ints) (hx : comp1 P o = some x) (hq : x.quiet = false) (hA : At E m w ts a) (h : Holds P I p (evOp I er wr x ts m k)) : LRes P I p E m w wr a o k Q := by
 unfold comp1 at hx
 split at hx
 ·cases hx
  exact l_dead h
 ·cases hx
  exact l_dead h
 ·rename_i t r hop
  split at hx
  ·cases hx
   exact l_makeMap hop hA h
  ·cases hx
 ·rename_i t X Y ok hop
  split at hx
  ·rename_i h1 h2 h3
   cases hx
   exact l_lookup hop h1 h2 h3 hI hA h
  ·cases hx
 ·rename_i t X Y V hop
  split at hx
  ·rename_i h1 h2 h3 h4
   cases hx
   exact l_mapUpdate hI hop h1 h2 h3 h4 hA h
  ·cases hx
 ·rename_i t X Y hop
  split at hx
  ·rename_i h1 h2 h3
   cases hx
   exact l_mapEntry hI hop h1 h2 h3 hA h
  ·cases hx
 ·rename_i t X Y V hop
  split at hx
  ·rename_i h1 h2 h3 h4
   cases hx
   exact l_entryStore hI hop h1 h2 h3 h4 hA h
  ·cases hx
 ·obtain ⟨y, hy, rfl⟩ := Option.map_eq_some_iff.1 hx; cases hq
 ·obtain ⟨y, hy, rfl⟩ := Option.map_eq_some_iff.1 hx; cases hq
 ·split at hx
  ·cases hx; cases hq
  ·cases hx
 ·rename_i t X hop
  obtain ⟨y, hy, rfl⟩ := Option.map_eq_some_iff.1 hx
  exact l_box hop hy hA h
 ·rename_i t hop
  obtain ⟨z, hz, rfl⟩ := Option.map_eq_some_iff.1 hx
  exact l_alloc hop hz hA h
 ·split at hx
  ·cases hx; cases hq
  ·cases hx
 ·rename_i t n ps hop
  split at hx
  ·rename_i e ht
   split at hx
   ·rename_i es z l h1 h2 h3
    split at hx
    ·rename_i d1 d3
     cases hx
     exact l_buildSlice hI hop ht h1 h2 h3 (of_decide_eq_true d1) (of_decide_eq_true d3) hA h
    ·cases hx
   ·cases hx
  ·cases hx
 ·split at hx
  ·cases hx; cases hq
  ·cases hx
 ·rename_i t X Y hop
  split at hx
  ·rename_i h1 h2 h3
   cases hx
   exact l_store hI hop h1 h2 h3 hA h
  ·cases hx
 ·obtain ⟨y, hy, rfl⟩ := Option.map_eq_some_iff.1 hx; cases hq
 ·split at hx
  ·unfold compBin at hx
   split at hx
   ·split at hx <;> cases hx <;> cases hq
   ·split at hx <;> cases hx <;> cases hq
   ·split at hx <;> cases hx <;> cases hq
   ·split at hx <;> cases hx <;> cases hq
   ·split at hx <;> cases hx <;> cases hq
   ·split at hx
    ·split at hx <;> cases hx <;> cases hq
    ·cases hx
   ·cases hx
  ·cases hx
 ·split at hx
  ·obtain ⟨y, hy, rfl⟩ := Option.map_eq_some_iff.1 hx; cases hq
  ·obtain ⟨y, hy, rfl⟩ := Option.map_eq_some_iff.1 hx; cases hq
  ·obtain ⟨y, hy, rfl⟩ := Option.map_eq_some_iff.1 hx; cases hq
  ·cases hx
 ·rename_i s d X hop
  split at hx
  ·obtain ⟨y, hy, rfl⟩ := Option.map_eq_some_iff.1 hx; cases hq
  ·rename_i e h1 h2
   split at hx
   ·rename_i h3
    obtain ⟨y, hy, rfl⟩ := Option.map_eq_some_iff.1 hx
    exact l_b2s hI hop h1 h3 h2 hy hA h
   ·cases hx
  ·rename_i e h1 h2
   split at hx
   ·rename_i b h3
    cases hx
    exact l_s2b hop h1 h2 h3 hA h
   ·cases hx
  ·cases hx
 ·split at hx
  ·split at hx
   ·split at hx
    ·split at hx <;> cases hx; cases hq
    ·cases hx
   ·cases hx
  ·cases hx
 ·split at hx
  ·split at hx
   ·split at hx <;> cases hx; cases hq
   ·cases hx
  ·cases hx
 ·split at hx
  ·obtain ⟨y, hy, rfl⟩ := Option.map_eq_some_iff.1 hx; cases hq
  ·obtain ⟨y, hy, rfl⟩ := Option.map_eq_some_iff.1 hx; cases hq
  ·cases hx
 ·split at hx
  ·split at hx <;> cases hx; cases hq
  ·cases hx
 ·split at hx
  ·split at hx <;> cases hx; cases hq
  ·cases hx
 ·rename_i t L Cp hop
  split at hx
  ·rename_i e ht
   split at hx
   ·rename_i i z lo co h1 h2 h3 h4
    split at hx
    ·rename_i x1 x2 d1 d2 d3
     split at hx
     ·rename_i hab
      cases hx
      exact l_makeSlice hI hop ht h1 h2 (of_decide_eq_true d1) (of_decide_eq_true d2) (of_decide_eq_true d3) h3 (fun j n hn => ⟨j, by rw [← hn]; simp at hab; rw [hab]⟩) hA h
     ·cases hx
      exact l_makeSlice2 hI hop ht h1 h2 (of_decide_eq_true d1) (of_decide_eq_true d2) h3 h4 hA h
    ·rename_i k1 x1 k2 x2 d1 d2 d3
     split at hx
     ·rename_i hab
      cases hx
      refine l_makeSlice hI hop ht h1 h2 (of_decide_eq_true d1) (of_decide_eq_true d2) (of_decide_eq_true d3) h3 (fun j n hn => ⟨k2, ?_⟩) hA h
      simp [Act.eval] at hn ⊢
      simp at hab
      omega
     ·cases hx
      exact l_makeSlice2 hI hop ht h1 h2 (of_decide_eq_true d1) (of_decide_eq_true d2) h3 h4 hA h
    ·rename_i d1 d2 d3 _ _
     cases hx
     exact l_makeSlice2 hI hop ht h1 h2 (of_decide_eq_true d1) (of_decide_eq_true d2) h3 h4 hA h
    ·cases hx
   ·cases hx
  ·cases hx
 ·obtain ⟨y, hy, rfl⟩ := Option.map_eq_some_iff.1 hx; cases hq
 ·rename_i c hop
  obtain ⟨callee, args, ats⟩ := c
  unfold compCall at hx
  simp only at hx
  split at hx
  ·rename_i f
   split at hx
   ·rename_i fn hf
    split at hx
    ·rename_i l h1 h2 h3
     cases hx
     exact l_call hI hop hf h1 h2 h3 hA h
    ·cases hx
   ·cases hx
  ·split at hx
   ·rename_i X Y t t' hXY h0 _
    split at hx
    ·rename_i e e' x y hu _ hx' hy'
     split at hx
     ·rename_i es hs
      split at hx
      ·rename_i d1
       cases hx
       obtain rfl : args = #[X, Y] := by rw [← Array.toArray_toList (xs := args), hXY]
       exact l_copy hI hop h0 hu hs (of_decide_eq_true d1) hx' hy' hA h
      ·cases hx
     ·cases hx
    ·cases hx
   ·cases hx
  ·split at hx
   ·rename_i X t hX ht
    split at hx
    ·cases hx; cases hq
    ·rename_i kt et y hu hy
     cases hx
     obtain rfl : args = #[X] := by rw [← Array.toArray_toList (xs := args), hX]
     exact l_lenMap (ty := 0) hI hop ht hu hy hA h
    ·cases hx
   ·cases hx
  ·split at hx
   ·split at hx <;> cases hx; cases hq
   ·cases hx
  ·split at hx <;> cases hx; cases hq
  ·split at hx <;> cases hx; cases hq
  ·split at hx
   ·rename_i X Y t u hXY htu
    split at hx
    ·rename_i e heq ht
     split at hx
     ·rename_i i z x y h1 h2 h3 h4
      split at hx
      ·rename_i d1
       cases hx
       obtain rfl : t = u := by simpa using heq
       obtain rfl : args = #[X, Y] := by rw [← Array.toArray_toList (xs := args), hXY]
       obtain rfl : ats = #[t, t] := by rw [← Array.toArray_toList (xs := ats), htu]
       exact l_append hI hop ht h1 h2 (of_decide_eq_true d1) h3 h4 hA h
      ·cases hx
     ·cases hx
    ·rename_i e heq ht
     split at hx
     ·rename_i kn i z x y hu h1 h2 h3 h4
      split at hx
      ·rename_i d1
       cases hx
       obtain rfl : args = #[X, Y] := by rw [← Array.toArray_toList (xs := args), hXY]
       obtain rfl : ats = #[t, u] := by rw [← Array.toArray_toList (xs := ats), htu]
       exact l_appendZ hI hop ht hu h1 h2 (of_decide_eq_true d1) h3 h4 hA h
      ·cases hx
     ·cases hx
    ·cases hx
   ·cases hx
  ·rename_i t
   obtain ⟨l, hl, rfl⟩ := Option.map_eq_some_iff.1 hx
   exact l_callV hI hop hl hA h
  ·cases hx
 ·rename_i f first caps hop
  split at hx
  ·rename_i l h1 h2
   cases hx
   exact l_makeFunc hop h1 h2 hA h
  ·cases hx
 ·cases hx
end
end Go.Proofs.Ytofdnnjkfpomcaa.E
