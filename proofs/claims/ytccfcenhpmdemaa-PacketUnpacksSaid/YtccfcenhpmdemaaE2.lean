/- What abstract values and memories say of a world, and what lasts. -/
import Derived.Test.YtccfcenhpmdemaaE1
import Derived.ArgAppend
import Derived.Deep.MidRow
import Derived.Deep.LoopGhost
import Derived.Below
namespace Go.Proofs.Ytccfcenhpmdemaa.E
open Go
set_option linter.unusedVariables false

structure Env where
  F : Nat → Prop
  B : Nat → Prop
  ρ : Nat → Option (Nat × Nat)

def at_ (a off : Nat) : Addr := ⟨a, off, none⟩

/-- The cells of a row's elements. -/
structure RowAt (w : World) (T : Nat → Prop) (es : Nat) (l : List (List G)) (A : Option Addr) (u : Nat → Nat → Value) : Prop where
  wid : ∀ (i : Nat) (r : List G), l[i]? = some r → r.length = es
  cell : ∀ (i : Nat) (r : List G) (j : Nat) (x : G), l[i]? = some r → r[j]? = some x → ∃ a off, A = some (at_ a off) ∧ T a ∧ w.cell? (at_ a (off + (i * es + j))) = some (u i j)
  some_ : l ≠ [] → ∃ a off, A = some (at_ a off) ∧ T a

inductive GRep (F : Nat → Prop) (w : World) : G → Value → Prop where
  | bool (b : BB) : GRep F w (.bool b) (.bool b.val)
  | int (k : IntKind) (z : Z) : GRep F w (.int k z) (.int k z.val)
  | str (s : ByteArray) : GRep F w (.str s) (.string s)
  | nilp : GRep F w .nilp (.pointer none)
  | nil : GRep F w .nil (.slice none 0 0)
  | rows {es : Nat} {l : List (List G)} {A : Option Addr} {c : Nat} (u : Nat → Nat → Value) (hc : l.length ≤ c) (hr : RowAt w F es l A u)
      (hg : ∀ (i : Nat) (r : List G) (j : Nat) (x : G), l[i]? = some r → r[j]? = some x → GRep F w x (u i j)) : GRep F w (.rows es l) (.slice A l.length c)

/-- A key, as its row tells it. -/
def kvIs (ag : Option Nat) (z : Int) (v : Value) : Prop := match ag with
  | some 0 => ∃ a b : Int, z = pairZ a b ∧ v = .agg #[.int .i64 a, .int .i64 b]
  | _ => v = .int .i64 z
/-- What a map has: of each key its row, the key first. -/
structure MapAt (w : World) (F : Nat → Prop) (ag : Option Nat) (l : List (List G)) (a : Nat) : Prop where
  ex : ∃ (es : Array MapEntry) (clock : Nat), w.heap[a]? = some (.map es clock) ∧ es.size = l.length ∧
    (∀ (i : Nat) (row : List G), l[i]? = some row → ∃ (z : Z) (gs : List G) (e : MapEntry) (us : List Value), row = .int .i64 z :: gs ∧ es[i]? = some e ∧ kvIs ag z.val e.key ∧ e.born < clock ∧
      us.length = gs.length ∧ (∀ (j : Nat) (g : G), gs[j]? = some g → ∃ u, us[j]? = some u ∧ GRep F w g u) ∧ (match vag ag with | none => us = [e.val] | some n => e.val = .agg us.toArray ∧ us.length = n)) ∧
    (∀ (i j : Nat) (e e' : MapEntry), es[i]? = some e → es[j]? = some e' → e.born = e'.born ∨ e.key = e'.key → i = j)

def Blk.live : Blk → Prop
  | .dead => False
  | _ => True
def Blk.rows : Blk → List (List C)
  | .dead => []
  | .lit _ r => r
  | .sym _ l => l.map fun r => r.map C.g
  | .mp _ _ => []

def capIs (cap : Option NN) (c : Nat) : Prop := ∀ c', cap = some c' → c = c'.val

def CRep (E : Env) (m : Mem) (w : World) : C → Value → Prop
  | .any, v => v.oneCell' = true
  | .g x, v => GRep E.F w x v
  | .bor es l, v => ∃ A c u, v = .slice A l.length c ∧ l.length ≤ c ∧ RowAt w (fun k => E.F k ∨ E.B k) es l A u ∧ ∀ (i : Nat) (r : List G) (j : Nat) (x : G), l[i]? = some r → r[j]? = some x → GRep E.F w x (u i j)
  | .gp row j, v => ∃ a off, v = .pointer (some (at_ a (off + j))) ∧ (E.F a ∨ E.B a) ∧ ∀ (j : Nat) (x : G), row[j]? = some x → ∃ u, w.cell? (at_ a (off + j)) = some u ∧ GRep E.F w x u
  | .ptr b i es j, v => b < m.length ∧ ∃ a base, E.ρ b = some (a, base) ∧ v = .pointer (some (at_ a (base + (i.val * es + j))))
  | .row b es cap, v => b < m.length ∧ v.oneCell' = true ∧ ∀ blk : Blk, m[b]? = some blk → blk.live → blk.es = es ∧ (∀ c' : NN, cap = some c' → c'.val = blk.rows.length) ∧
      ((E.ρ b = none ∧ v = .slice none 0 0) ∨ ∃ a base c, E.ρ b = some (a, base) ∧ v = .slice (some (at_ a base)) blk.rows.length c ∧ blk.rows.length ≤ c ∧ capIs cap c ∧ w.there a base (c * es))
  | .sl b i es n cap, v => b < m.length ∧ v.oneCell' = true ∧ ∀ blk : Blk, m[b]? = some blk → blk.live → blk.es = es ∧ i.val + n.val ≤ blk.rows.length ∧ (∀ c' : NN, cap = some c' → i.val + c'.val ≤ blk.rows.length) ∧
      ((E.ρ b = none ∧ v = .slice none 0 0 ∧ n.val = 0) ∨ ∃ a base c off, E.ρ b = some (a, base) ∧ v = .slice (some (at_ a off)) n.val c ∧ (0 < c → off = base + i.val * es) ∧ n.val ≤ c ∧ capIs cap c ∧ w.there a (base + i.val * es) (c * es))
  | .fn f caps, v => ∃ us : Array Value, v = .func (.func f) #[] us ∧ us.size = caps.length ∧ ∀ (i b es j : Nat), caps[i]? = some (b, es, j) → b < m.length ∧ ∃ a base, E.ρ b = some (a, base) ∧ us[i]? = some (.pointer (some (at_ a (base + (0 * es + j)))))
  | .map b, v => b < m.length ∧ ∃ a base, E.ρ b = some (a, base) ∧ v = .map (some a)
  | .stamp b z, v => b < m.length ∧ ∃ (a base born : Nat) (es : Array MapEntry) (c : Nat), E.ρ b = some (a, base) ∧ v = .int .i64 born ∧ w.heap[a]? = some (.map es c) ∧ ∃ (i : Nat) (e : MapEntry), es[i]? = some e ∧ e.born = born ∧ e.key = .int .i64 z.val

def V1Rep (E : Env) (m : Mem) (w : World) : V1 → Value → Prop
  | .c x, v => x = .any ∨ CRep E m w x v
  | .agg l, v => ∃ cs : Array Value, v = .agg cs ∧ cs.size = l.length ∧ ∀ (i : Nat) (x : C), l[i]? = some x → ∃ u, cs[i]? = some u ∧ CRep E m w x u
def ARep (E : Env) (m : Mem) (w : World) : A → Value → Prop
  | .one v, u => V1Rep E m w v u
  | .tup l, u => ∃ us : Array Value, u = .tuple us ∧ us.size = l.length ∧ ∀ (i : Nat) (v : V1), l[i]? = some v → ∃ u, us[i]? = some u ∧ V1Rep E m w v u
def TsRep (E : Env) (m : Mem) (w : World) (ts : List A) (tmps : Array Value) : Prop :=
  tmps.size = ts.length ∧ ∀ (t : Nat) (x : A), ts[t]? = some x → ARep E m w x (tmps.getD t undef)

def BRep (E : Env) (m : Mem) (w : World) (blk : Blk) (r : Option (Nat × Nat)) : Prop :=
  blk.live → (r = none ∧ blk.rows = []) ∨ ∃ a base, r = some (a, base) ∧ w.there a base (blk.rows.length * blk.es) ∧ a < w.heap.size ∧
    ∀ (i : Nat) (row : List C), blk.rows[i]? = some row → row.length = blk.es ∧ ∀ (j : Nat) (x : C), row[j]? = some x → ∃ u, w.cell? (at_ a (base + (i * blk.es + j))) = some u ∧ CRep E m w x u

structure Sat (E : Env) (m : Mem) (w : World) : Prop where
  rep : ∀ id blk, m[id]? = some blk → BRep E m w blk (E.ρ id)
  inj : ∀ i j bi bj a x y, m[i]? = some bi → m[j]? = some bj → bi.live → bj.live → E.ρ i = some (a, x) → E.ρ j = some (a, y) → i = j
  dis : ∀ i bi a x, m[i]? = some bi → bi.live → E.ρ i = some (a, x) → ¬ E.F a ∧ ¬ E.B a
  old : ∀ k, E.F k ∨ E.B k → k < w.heap.size
  maps : ∀ id ag l, m[id]? = some (.mp ag l) → ∃ a, E.ρ id = some (a, 0) ∧ a < w.heap.size ∧ MapAt w E.F ag l a

/-! ### What lasts -/
/-- Cells that were there are there, and may be written as before. -/
structure Stays (w w' : World) : Prop where
  cell : ∀ x, (w.cell? x).isSome = true → (w'.cell? x).isSome = true ∧ w'.frozen? x = w.frozen? x
  maps : ∀ (a : Nat) (es : Array MapEntry) (c : Nat), w.heap[a]? = some (.map es c) → ∃ es' c', w'.heap[a]? = some (.map es' c') ∧ ∀ (i : Nat) (e : MapEntry), es[i]? = some e → ∃ e', es'[i]? = some e' ∧ e'.key = e.key ∧ e'.born = e.born
theorem Stays.refl (w : World) : Stays w w := ⟨fun _ h => ⟨h, rfl⟩, fun a es c h => ⟨es, c, h, fun i e h => ⟨e, h, rfl, rfl⟩⟩⟩
theorem Stays.trans {w w1 w2 : World} (h : Stays w w1) (k : Stays w1 w2) : Stays w w2 := ⟨fun x hx => ⟨(k.cell x (h.cell x hx).1).1, (k.cell x (h.cell x hx).1).2.trans (h.cell x hx).2⟩, fun a es c h1 => by
  obtain ⟨es1, c1, h2, h3⟩ := h.maps a es c h1
  obtain ⟨es2, c2, h4, h5⟩ := k.maps a es1 c1 h2
  refine ⟨es2, c2, h4, fun i e hi => ?_⟩
  obtain ⟨e1, g1, g2, g3⟩ := h3 i e hi
  obtain ⟨e2, k1, k2, k3⟩ := h5 i e1 g1
  exact ⟨e2, k1, k2.trans g2, k3.trans g3⟩⟩
theorem there_stays {w w' : World} (h : Stays w w') {a o n : Nat} (ht : w.there a o n) : w'.there a o n := fun j hj => ⟨(h.cell _ (ht j hj).1).1, (h.cell _ (ht j hj).1).2.trans (ht j hj).2⟩

structure Step (E : Env) (m : Mem) (w : World) (E' : Env) (m' : Mem) (w' : World) : Prop where
  F : ∀ k, E.F k → E'.F k
  B : ∀ k, E.B k → E'.B k
  ρ : ∀ id, id < m.length → E'.ρ id = E.ρ id
  len : m.length ≤ m'.length
  shape : ∀ id blk', id < m.length → m'[id]? = some blk' → blk'.live → ∃ blk, m[id]? = some blk ∧ blk.live ∧ blk'.rows.length = blk.rows.length ∧ blk'.es = blk.es
  frz : ∀ k, E.F k ∨ E.B k → w'.heap[k]? = w.heap[k]?
  stays : Stays w w'

theorem Step.refl (E : Env) (m : Mem) (w : World) : Step E m w E m w :=
  ⟨fun _ h => h, fun _ h => h, fun _ _ => rfl, Nat.le_refl _, fun id blk' _ h hl => ⟨blk', h, hl, rfl, rfl⟩, fun _ _ => rfl, Stays.refl w⟩
theorem Step.trans {E E1 E2 : Env} {m m1 m2 : Mem} {w w1 w2 : World} (h : Step E m w E1 m1 w1) (k : Step E1 m1 w1 E2 m2 w2) : Step E m w E2 m2 w2 where
  F := fun i hi => k.F i (h.F i hi)
  B := fun i hi => k.B i (h.B i hi)
  ρ := fun id hid => (k.ρ id (Nat.lt_of_lt_of_le hid h.len)).trans (h.ρ id hid)
  len := Nat.le_trans h.len k.len
  shape := fun id blk' hid hb hl => by
    obtain ⟨b1, h1, h2, h3, h4⟩ := k.shape id blk' (Nat.lt_of_lt_of_le hid h.len) hb hl
    obtain ⟨b0, g1, g2, g3, g4⟩ := h.shape id b1 hid h1 h2
    exact ⟨b0, g1, g2, h3.trans g3, h4.trans g4⟩
  frz := fun i hi => (k.frz i (hi.imp (h.F i) (h.B i))).trans (h.frz i hi)
  stays := h.stays.trans k.stays

theorem cell_frz {w w' : World} {a o : Nat} (h : w'.heap[a]? = w.heap[a]?) : w'.cell? (at_ a o) = w.cell? (at_ a o) := World.cell?_of_block h
theorem RowAt.step {w w' : World} {T T' : Nat → Prop} {es : Nat} {l : List (List G)} {A : Option Addr} {u : Nat → Nat → Value} (h : RowAt w T es l A u) (hT : ∀ k, T k → T' k) (hw : ∀ k, T k → w'.heap[k]? = w.heap[k]?) : RowAt w' T' es l A u where
  wid := h.wid
  cell := fun i r j x hi hj => by
    obtain ⟨a, off, h1, h2, h3⟩ := h.cell i r j x hi hj
    exact ⟨a, off, h1, hT a h2, (cell_frz (hw a h2)).trans h3⟩
  some_ := fun hne => let ⟨a, off, h1, h2⟩ := h.some_ hne; ⟨a, off, h1, hT a h2⟩
theorem GRep.step {F F' : Nat → Prop} {w w' : World} (hF : ∀ k, F k → F' k) (hw : ∀ k, F k → w'.heap[k]? = w.heap[k]?) {x : G} {v : Value} (h : GRep F w x v) : GRep F' w' x v := by
  induction h with
  | bool b => exact .bool b
  | int k z => exact .int k z
  | str s => exact .str s
  | nilp => exact .nilp
  | nil => exact .nil
  | rows u hc hr hg ih => exact .rows u hc (hr.step hF hw) ih
theorem MapAt.lt {F : Nat → Prop} {w : World} {ag : Option Nat} {l : List (List G)} {a : Nat} (h : MapAt w F ag l a) : a < w.heap.size := by
  obtain ⟨es, clock, h1, _⟩ := h.ex
  exact (Array.getElem?_eq_some_iff.1 h1).1
theorem MapAt.step {F F' : Nat → Prop} {w w' : World} {ag : Option Nat} {l : List (List G)} {a a' : Nat} (hF : ∀ k, F k → F' k) (hw : ∀ k, F k → w'.heap[k]? = w.heap[k]?) (ha : w'.heap[a']? = w.heap[a]?) (h : MapAt w F ag l a) : MapAt w' F' ag l a' := by
  obtain ⟨es, clock, h1, h2, h3, h4⟩ := h.ex
  refine ⟨es, clock, ha.trans h1, h2, fun i row hi => ?_, h4⟩
  obtain ⟨z, gs, e, us, g1, g2, g3, g4, g5, g6, g7⟩ := h3 i row hi
  exact ⟨z, gs, e, us, g1, g2, g3, g4, g5, fun j g hj => let ⟨u, k1, k2⟩ := g6 j g hj; ⟨u, k1, k2.step hF hw⟩, g7⟩
theorem GRep.one {F : Nat → Prop} {w : World} {x : G} {v : Value} (h : GRep F w x v) : v.oneCell' = true := by cases h <;> rfl

section
variable {E E' : Env} {m m' : Mem} {w w' : World}
theorem CRep.one {x : C} {v : Value} (h : CRep E m w x v) : v.oneCell' = true := by
  cases x with
  | any => exact h
  | g x => exact GRep.one h
  | bor es l => obtain ⟨A, c, u, rfl, _⟩ := h; rfl
  | gp row j => obtain ⟨a, off, rfl, _⟩ := h; rfl
  | ptr b i es j => obtain ⟨_, a, base, _, rfl⟩ := h; rfl
  | row b es cap => exact h.2.1
  | sl b i es n cap => exact h.2.1
  | fn f l => obtain ⟨us, rfl, _⟩ := h; rfl
  | map b => obtain ⟨_, a, base, _, rfl⟩ := h; rfl
  | stamp b z => obtain ⟨_, a, base, born, es, c, _, rfl, _⟩ := h; rfl
theorem CRep.step (h : Step E m w E' m' w') {x : C} {v : Value} (hx : CRep E m w x v) : CRep E' m' w' x v := by
  cases x with
  | any => exact hx
  | g x => exact GRep.step h.F (fun k hk => h.frz k (.inl hk)) hx
  | bor es l =>
    obtain ⟨A, c, u, h1, h2, h3, h4⟩ := hx
    exact ⟨A, c, u, h1, h2, h3.step (fun k hk => hk.imp (h.F k) (h.B k)) h.frz, fun i r j x hi hj => GRep.step h.F (fun k hk => h.frz k (.inl hk)) (h4 i r j x hi hj)⟩
  | gp row j =>
    obtain ⟨a, off, h1, h2, h3⟩ := hx
    refine ⟨a, off, h1, h2.imp (h.F a) (h.B a), fun j x hj => ?_⟩
    obtain ⟨u, h4, h5⟩ := h3 j x hj
    exact ⟨u, (cell_frz (h.frz a h2)).trans h4, GRep.step h.F (fun k hk => h.frz k (.inl hk)) h5⟩
  | ptr b i es j =>
    obtain ⟨h0, a, base, h1, h2⟩ := hx
    exact ⟨Nat.lt_of_lt_of_le h0 h.len, a, base, (h.ρ b h0).trans h1, h2⟩
  | row b es cap =>
    obtain ⟨h0, ho, hx⟩ := hx
    refine ⟨Nat.lt_of_lt_of_le h0 h.len, ho, fun blk' hb hl => ?_⟩
    obtain ⟨blk, g1, g2, g3, g4⟩ := h.shape b blk' h0 hb hl
    obtain ⟨k1, k2, k3⟩ := hx blk g1 g2
    rw [h.ρ b h0, g3, g4]
    refine ⟨k1, k2, k3.imp id ?_⟩
    rintro ⟨a, base, c, e1, e2, e3, e4, e5⟩
    exact ⟨a, base, c, e1, e2, e3, e4, there_stays h.stays e5⟩
  | sl b i es n cap =>
    obtain ⟨h0, ho, hx⟩ := hx
    refine ⟨Nat.lt_of_lt_of_le h0 h.len, ho, fun blk' hb hl => ?_⟩
    obtain ⟨blk, g1, g2, g3, g4⟩ := h.shape b blk' h0 hb hl
    obtain ⟨k1, k2, k3, k4⟩ := hx blk g1 g2
    rw [h.ρ b h0, g3, g4]
    refine ⟨k1, k2, k3, k4.imp id ?_⟩
    rintro ⟨a, base, c, off, e1, e2, e3, e4, e5, e6⟩
    exact ⟨a, base, c, off, e1, e2, e3, e4, e5, there_stays h.stays e6⟩
  | fn f l =>
    obtain ⟨us, h1, h2, h3⟩ := hx
    exact ⟨us, h1, h2, fun i b es j hi => let ⟨h4, a, base, h5, h6⟩ := h3 i b es j hi; ⟨Nat.lt_of_lt_of_le h4 h.len, a, base, (h.ρ b h4).trans h5, h6⟩⟩
  | map b =>
    obtain ⟨h0, a, base, h1, h2⟩ := hx
    exact ⟨Nat.lt_of_lt_of_le h0 h.len, a, base, (h.ρ b h0).trans h1, h2⟩
  | stamp b z =>
    obtain ⟨h0, a, base, born, es, c, h1, h2, h3, i, e, h4, h5, h6⟩ := hx
    obtain ⟨es', c', g1, g2⟩ := h.stays.maps a es c h3
    obtain ⟨e', k1, k2, k3⟩ := g2 i e h4
    exact ⟨Nat.lt_of_lt_of_le h0 h.len, a, base, born, es', c', (h.ρ b h0).trans h1, h2, g1, i, e', k1, k3.trans h5, k2.trans h6⟩
theorem V1Rep.step (h : Step E m w E' m' w') {x : V1} {v : Value} (hx : V1Rep E m w x v) : V1Rep E' m' w' x v := by
  cases x with
  | c x => exact hx.imp id (CRep.step h)
  | agg l =>
    obtain ⟨cs, h1, h2, h3⟩ := hx
    exact ⟨cs, h1, h2, fun i x hi => let ⟨u, h4, h5⟩ := h3 i x hi; ⟨u, h4, h5.step h⟩⟩
theorem ARep.step (h : Step E m w E' m' w') {x : A} {v : Value} (hx : ARep E m w x v) : ARep E' m' w' x v := by
  cases x with
  | one v => exact V1Rep.step h hx
  | tup l =>
    obtain ⟨cs, h1, h2, h3⟩ := hx
    exact ⟨cs, h1, h2, fun i x hi => let ⟨u, h4, h5⟩ := h3 i x hi; ⟨u, h4, h5.step h⟩⟩
theorem TsRep.step (h : Step E m w E' m' w') {ts : List A} {tmps : Array Value} (hx : TsRep E m w ts tmps) : TsRep E' m' w' ts tmps :=
  ⟨hx.1, fun t x ht => (hx.2 t x ht).step h⟩
theorem TsRep.put {ts : List A} {tmps : Array Value} (h : TsRep E m w ts tmps) {x : A} {v : Value} (hx : ARep E m w x v) (d : Nat) : TsRep E m w (ts.set d x) (tmps.setIfInBounds d v) := by
  refine ⟨by simpa using h.1, fun t y ht => ?_⟩
  rw [List.getElem?_set] at ht
  by_cases hd : d = t
  · subst hd
    by_cases hl : d < ts.length
    · simp only [hl, if_true, Option.some.injEq] at ht
      subst ht
      have : d < tmps.size := by rw [h.1]; exact hl
      simpa [Array.getD_eq_getD_getElem?, this] using hx
    · simp [hl] at ht
  · simp only [hd, if_false] at ht
    have := h.2 t y ht
    simpa [Array.getD_eq_getD_getElem?, Array.getElem?_setIfInBounds_ne hd] using this
theorem BRep.step_rep (h : Step E m w E' m' w') {blk : Blk} {a base : Nat} (hh : w'.heap[a]? = w.heap[a]?) (hs : w.heap.size ≤ w'.heap.size) (hb : BRep E m w blk (some (a, base))) : BRep E' m' w' blk (some (a, base)) := by
  intro hl
  refine (hb hl).imp id ?_
  rintro ⟨a', base', e, h1, h2, h3⟩
  cases e
  refine ⟨a, base, rfl, there_stays h.stays h1, by omega, fun i row hi => ⟨(h3 i row hi).1, fun j x hj => ?_⟩⟩
  obtain ⟨u, h4, h5⟩ := (h3 i row hi).2 j x hj
  exact ⟨u, (cell_frz hh).trans h4, h5.step h⟩
end

/-- The blocks that may be written. -/
def Foot (Wt : Nat → Prop) (E : Env) (m : Mem) (k : Nat) : Prop := ∃ id blk x, m[id]? = some blk ∧ blk.live ∧ Wt id ∧ E.ρ id = some (k, x)

structure Grow (Wt : Nat → Prop) (E : Env) (m : Mem) (w : World) (E' : Env) (m' : Mem) (w' : World) : Prop extends Step E m w E' m' w' where
  B' : ∀ k, E'.B k → E.B k
  os : w'.os = w.os
  tape : w'.tape = w.tape
  output : w'.output = w.output
  size : w.heap.size ≤ w'.heap.size
  block : ∀ k, k < w.heap.size → ¬ Foot Wt E m k → w'.heap[k]? = w.heap[k]?
  newF : ∀ k, E'.F k → E.F k ∨ w.heap.size ≤ k ∨ Foot (fun _ => True) E m k
  newρ : ∀ id a x blk, m.length ≤ id → m'[id]? = some blk → blk.live → E'.ρ id = some (a, x) → w.heap.size ≤ a ∨ Foot Wt E m a

section
variable {E E' E1 E2 : Env} {m m' m1 m2 : Mem} {w w' w1 w2 : World} {Wt Wt' : Nat → Prop}
theorem Foot.mono (h : ∀ i, Wt i → Wt' i) {k : Nat} (hf : Foot Wt E m k) : Foot Wt' E m k := let ⟨id, blk, x, h1, h2, h3, h4⟩ := hf; ⟨id, blk, x, h1, h2, h id h3, h4⟩
theorem Grow.refl (Wt : Nat → Prop) (E : Env) (m : Mem) (w : World) : Grow Wt E m w E m w where
  toStep := Step.refl E m w
  B' := fun _ h => h
  os := rfl
  tape := rfl
  output := rfl
  size := Nat.le_refl _
  block := fun _ _ _ => rfl
  newF := fun _ h => .inl h
  newρ := fun id a x blk h1 h2 => by rw [List.getElem?_eq_none (by omega)] at h2; cases h2
/-- A block that may be written now might be written then, or is new. -/
theorem Grow.foot (h : Grow Wt E m w E1 m1 w1) (hW : ∀ id, id < m.length → Wt' id → Wt id) {k : Nat} (hf : Foot Wt' E1 m1 k) : w.heap.size ≤ k ∨ Foot Wt E m k := by
  obtain ⟨id, blk, x, h1, h2, h3, h4⟩ := hf
  rcases Nat.lt_or_ge id m.length with hid | hid
  · obtain ⟨b0, g1, g2, _, _⟩ := h.shape id blk hid h1 h2
    exact .inr ⟨id, b0, x, g1, g2, hW id hid h3, (h.ρ id hid) ▸ h4⟩
  · exact h.newρ id k x blk hid h1 h2 h4
theorem Grow.mono (h : Grow Wt E m w E1 m1 w1) (hW : ∀ id, Wt id → Wt' id) : Grow Wt' E m w E1 m1 w1 where
  toStep := h.toStep
  B' := h.B'
  os := h.os
  tape := h.tape
  output := h.output
  size := h.size
  block := fun k hk hn => h.block k hk fun hf => hn (hf.mono hW)
  newF := h.newF
  newρ := fun id a x blk h1 h2 h3 h4 => (h.newρ id a x blk h1 h2 h3 h4).imp (fun h => h) (Foot.mono hW)
theorem Grow.trans (h : Grow Wt E m w E1 m1 w1) (k : Grow Wt' E1 m1 w1 E2 m2 w2) (hW : ∀ id, id < m.length → Wt' id → Wt id) : Grow Wt E m w E2 m2 w2 where
  toStep := h.toStep.trans k.toStep
  B' := fun i hi => h.B' i (k.B' i hi)
  os := k.os.trans h.os
  tape := k.tape.trans h.tape
  output := k.output.trans h.output
  size := Nat.le_trans h.size k.size
  block := fun i hi hn => (k.block i (Nat.lt_of_lt_of_le hi h.size) (fun hf => by
    rcases h.foot hW hf with h1 | h1
    · omega
    · exact hn h1)).trans (h.block i hi hn)
  newF := fun i hi => by
    rcases k.newF i hi with h1 | h1 | h1
    · exact h.newF i h1
    · exact .inr (.inl (Nat.le_trans h.size h1))
    · refine .inr (((h.mono (Wt' := fun _ => True) (fun _ _ => trivial)).foot (Wt' := fun _ => True) (fun _ _ _ => trivial) h1))
  newρ := fun id a x blk h1 h2 h3 h4 => by
    rcases Nat.lt_or_ge id m1.length with hid | hid
    · obtain ⟨b0, g1, g2, _, _⟩ := k.shape id blk hid h2 h3
      exact h.newρ id a x b0 h1 g1 g2 ((k.ρ id hid) ▸ h4)
    · rcases k.newρ id a x blk hid h2 h3 h4 with h5 | h5
      · exact .inl (Nat.le_trans h.size h5)
      · exact h.foot hW h5
end

/-! ### Known numbers as letters -/
theorem G_sy {F : Nat → Prop} {w : World} {x : G} {u : Value} (h : GRep F w x u) : GRep F w x.sy u := by
  cases h with
  | bool b => exact .bool (.sym b.val)
  | int k z => exact .int k (.sym z.val)
  | str s => exact .str s
  | nilp => exact .nilp
  | nil => exact .nil
  | rows u hc hr hg => exact .rows u hc hr hg
theorem C_sy {E : Env} {m : Mem} {w : World} {x : C} {u : Value} (h : CRep E m w x u) : CRep E m w x.sy u := by
  cases x with
  | g x =>
    cases x with
    | bool b => generalize u = v at h; cases h; exact .bool (.sym b.val)
    | int k z => generalize u = v at h; cases h; exact .int k (.sym z.val)
    | _ => exact h
  | _ => exact h
theorem V1_sy {E : Env} {m : Mem} {w : World} {x : V1} {u : Value} (h : V1Rep E m w x u) : V1Rep E m w x.sy u := by
  cases x with
  | c x =>
    rcases h with rfl | h
    · exact .inl rfl
    · exact .inr (C_sy h)
  | agg l =>
    obtain ⟨cs, h1, h2, h3⟩ := h
    refine ⟨cs, h1, by simp [h2], fun i x hi => ?_⟩
    rw [List.getElem?_map] at hi
    obtain ⟨y, hy, rfl⟩ := Option.map_eq_some_iff.1 hi
    obtain ⟨u, h4, h5⟩ := h3 i y hy
    exact ⟨u, h4, C_sy h5⟩

/-! ### What a function does -/
def LValid (P : Program) (f : FuncId) (args : List V1) (m : Mem) (R : A → Mem → Prop) : Prop :=
  ∀ (E : Env) (w : World) (vs : Array Value), Sat E m w → vs.size = args.length → (∀ (i : Nat) (x : V1), args[i]? = some x → ∃ u, vs[i]? = some u ∧ V1Rep E m w x u) →
    Calls P f vs w fun e w' => ∃ u v m' E', e = .returned u ∧ R v m' ∧ ARep E' m' w' v u ∧ v.free = true ∧ (∀ (id : Nat) (blk : Blk), m'[id]? = some blk → blk.free = true) ∧ Sat E' m' w' ∧ Grow (fun _ => True) E m w E' m' w'

/-- No deferred calls but those of ranges over functions that are over: their blocks are told for good. -/
def DefOK (E : Env) (w : World) (a : Act) : Prop := ∃ Ds : List Nat, Ds.Nodup ∧ a.defers = Ds.map (fun D => ({ target := .collected D, args := #[] } : Deferred)) ∧ ∀ D ∈ Ds, E.F D ∧ w.heap[D]? = some (.deferred (some []))
structure At (E : Env) (m : Mem) (w : World) (ts : List A) (a : Act) : Prop where
  sat : Sat E m w
  ts : TsRep E m w ts a.tmps
  defers : DefOK E w a
theorem DefOK.mono {E E' : Env} {w w' : World} {a : Act} (hF : ∀ k, E.F k → E'.F k) (hw : ∀ k, E.F k → w'.heap[k]? = w.heap[k]?) (h : DefOK E w a) : DefOK E' w' a :=
  let ⟨Ds, h1, h2, h3⟩ := h
  ⟨Ds, h1, h2, fun D hD => ⟨hF D (h3 D hD).1, (hw D (h3 D hD).1).trans (h3 D hD).2⟩⟩
theorem DefOK.step {E E' : Env} {m m' : Mem} {w w' : World} {a : Act} (h : Step E m w E' m' w') (hd : DefOK E w a) : DefOK E' w' a := hd.mono h.F fun k hk => h.frz k (.inl hk)
theorem DefOK.put {E : Env} {w : World} {a : Act} (h : DefOK E w a) (d : Option Nat) (v : Value) : DefOK E w (a.put d v) :=
  let ⟨Ds, h1, h2, h3⟩ := h
  ⟨Ds, h1, (by cases d <;> exact h2), h3⟩
theorem DefOK.nil {E : Env} {w : World} {a : Act} (h : a.defers = []) : DefOK E w a := ⟨[], List.nodup_nil, h, fun D hD => by cases hD⟩
/-- What a range over a function does, all of it. -/
def RSpec (P : Program) (c : Code) (ts : List A) (m : Mem) (R : List A → Mem → Prop) : Prop :=
  ∀ (E : Env) (w : World) (a : Act) (Q : Exit → Act → World → Prop), At E m w ts a →
    (∀ (E' : Env) (m' : Mem) (w' : World) (ts' : List A) (a' : Act), R ts' m' → At E' m' w' ts' a' → Grow (fun _ => True) E m w E' m' w' → (∀ D : Nat, ({ target := .collected D, args := #[] } : Deferred) ∈ a'.defers → ({ target := .collected D, args := #[] } : Deferred) ∈ a.defers ∨ w.heap.size ≤ D) → Q .normal a' w') → c.wp P Q a w

/-- A function that a function value may name. -/
def callable (P : Program) (f : FuncId) : Bool := match P.funcs[f]? with
  | some fn => !(fn.name == "runtime.NumGoroutine") && fn.body.isSome
  | none => false
/-- What names no memory. -/
def V1.plain : V1 → Bool
  | .c (.g (.bool _)) => true
  | .c (.g (.int _ _)) => true
  | .c (.g (.str _)) => true
  | .c (.g .nilp) => true
  | .c (.g .nil) => true
  | _ => false
def A.plain : A → Bool
  | .one v => v.plain
  | .tup l => l.all V1.plain
/-- What a proof shows of a tree. -/
inductive Holds (P : Program) (I : Ints) : Nat → Tree → Prop where
  | goal {p : Nat} {c : Prop} (h : c) : Holds P I p (.goal c)
  | br {p : Nat} {b : Bool} {t e : Unit → Tree} (h1 : b = true → Holds P I p (t ())) (h2 : b = false → Holds P I p (e ())) : Holds P I p (.br b t e)
  | idx {p : Nat} {z : Int} {n : Nat} {k : Nat → Tree} (i : Nat) (h1 : z = (i : Int)) (h2 : i < n) (h : Holds P I p (k i)) : Holds P I p (.idx z n k)
  | rng {p : Nat} {lo hi : Option Int} {n : Nat} {k : Nat → Nat → Tree} (l h : Nat) (h1 : lo.getD 0 = (l : Int)) (h2 : hi.getD n = (h : Int)) (h3 : l ≤ h) (h4 : h ≤ n) (hk : Holds P I p (k l h)) : Holds P I p (.rng lo hi n k)
  | nth {p : Nat} {l : List (List G)} {i : Nat} {k : List G → Tree} (r : List G) (h1 : l[i]? = some r) (h : Holds P I p (k r)) : Holds P I p (.nth l i k)
  | isnil {p : Nat} {l : List (List G)} {t e : Unit → Tree} (h1 : l = [] → Holds P I p (t ())) (h2 : Holds P I p (e ())) : Holds P I p (.isnil l t e)
  | nz {p : Nat} {z : Int} {k : Unit → Tree} (h1 : z ≠ 0) (h : Holds P I p (k ())) : Holds P I p (.nz z k)
  | nonneg {p : Nat} {z : Int} {k : Unit → Tree} (h1 : 0 ≤ z) (h : Holds P I p (k ())) : Holds P I p (.nonneg z k)
  | size {p : Nat} {z : Int} {bytes : Nat} {k : Nat → Tree} (n : Nat) (h1 : z = (n : Int)) (h2 : n * bytes ≤ 140737488355328) (h : Holds P I p (k n)) : Holds P I p (.size z bytes k)
  | most {p : Nat} {n bytes : Nat} {k : Unit → Tree} (h1 : n * bytes ≤ 140737488355328) (h2 : n ≤ 140737488355328) (h : Holds P I p (k ())) : Holds P I p (.most n bytes k)
  | own {p : Nat} {x : X} {ts : List A} {m : Mem} {k : Ex → List A → Mem → Tree} (t es : Nat) (ht : ts[t]? = some (.one (.c (.g .nil)))) (h : Holds P I p (.loop x (ts.set t (.one (.c (.row m.length es none)))) (m ++ [.sym es []]) k)) : Holds P I p (.loop x ts m k)
  | ownc {p : Nat} {x : X} {ts : List A} {m : Mem} {k : Ex → List A → Mem → Tree} (b es i j es' : Nat) (rows : List (List C)) (row : List C) (hb : m[b]? = some (.lit es rows)) (hi : rows[i]? = some row) (hj : row[j]? = some (.g .nil))
      (h : Holds P I p (.loop x ts ((m.set b (.lit es (rows.set i (row.set j (.row m.length es' none))))) ++ [.sym es' []]) k)) : Holds P I p (.loop x ts m k)
  | bytes {p : Nat} {l : List (List G)} {k : Unit → Tree} (h1 : ∀ (i : Nat) (r : List G), l[i]? = some r → ∃ z, r = [.int .u8 z]) (h : Holds P I p (k ())) : Holds P I p (.bytes l k)
  | both {p : Nat} {t e : Unit → Tree} (h1 : Holds P I p (t ())) (h2 : Holds P I p (e ())) : Holds P I p (.both t e)
  | find {p : Nat} {l : List (List G)} {z : Int} {k : Option (List G) → Tree} (r : Option (List G)) (h1 : mfind l z = r) (h : Holds P I p (k r)) : Holds P I p (.find l z k)
  | fnok {p : Nat} {f : FuncId} {k : Unit → Tree} (h1 : callable P f = true) (h : Holds P I p (k ())) : Holds P I p (.fnok f k)
  | drawn {p : Nat} {m : Mem} {k : List Nat → Tree} (W : List Nat) (h : Holds P I p (k W)) : Holds P I p (.drawn m k)
  | loop {p : Nat} {x : X} {ts : List A} {m : Mem} {k : Ex → List A → Mem → Tree} (Inv : Nat → List A → Mem → Prop) (n : Nat) (ts0 : List A) (m0 : Mem) (σ fz : List Nat) (keep : List Nat)
      (hσ : σ.Nodup) (hp : σ.take p = List.range p) (ht : ts0 = ((maskT keep 0 ts).map (A.inv I σ (.frz fz) m)).map A.sy) (hm : m0 = (invMem I σ (.frz fz) m).map Blk.sy) (h0 : Inv n ts0 m0)
      (h : ∀ (n : Nat) (ts : List A) (m : Mem), Inv n ts m → Holds P I p (ev I x ts m fun e ts m => match e with
          | .normal => .goal (∃ (n' : Nat) (ts1 : List A) (m1 : Mem) (σ fz : List Nat) (keep : List Nat), n' < n ∧ σ.Nodup ∧ σ.take p = List.range p ∧ ts1 = ((maskT keep 0 ts).map (A.inv I σ (.frz fz) m)).map A.sy ∧ m1 = (invMem I σ (.frz fz) m).map Blk.sy ∧ Inv n' ts1 m1)
          | .exit i => k (.exit i) ts m
          | .ret => k .ret ts m)) : Holds P I p (.loop x ts m k)
  | pass {p : Nat} {x : X} {ts : List A} {m : Mem} {k : Ex → List A → Mem → Tree} (h : Holds P I p (ev I x ts m k)) : Holds P I p (.join x ts m k)
  | join {p : Nat} {x : X} {ts : List A} {m : Mem} {k : Ex → List A → Mem → Tree} (Post : List A → Mem → Prop)
      (h1 : Holds P I p (ev I x ts m fun e ts m => match e with
          | .normal => .goal (∃ (ts1 : List A) (m1 : Mem) (σ fz : List Nat) (keep : List Nat), σ.Nodup ∧ σ.take p = List.range p ∧ ts1 = ((maskT keep 0 ts).map (A.inv I σ (.frz fz) m)).map A.sy ∧ m1 = (invMem I σ (.frz fz) m).map Blk.sy ∧ Post ts1 m1)
          | .exit i => k (.exit i) ts m
          | .ret => k .ret ts m))
      (h2 : ∀ (ts : List A) (m : Mem), Post ts m → Holds P I p (k .normal ts m)) : Holds P I p (.join x ts m k)
  /-- A range over a map: block b' of the round's memory is the map, which the body neither reads nor writes, block bit the iterator. -/
  | mloop {p : Nat} {x : X} {b : Nat} {ag : Option Nat} {l : List (List G)} {it t1 tok t2 : Nat} {ts : List A} {m : Mem} {k : List A → Mem → Tree} (Inv : List A → Mem → Prop) (ts0 : List A) (m0 : Mem) (σ fz keep : List Nat) (b' bit : Nat)
      (hσ : σ.Nodup) (hp : σ.take p = List.range p) (hb : σ[b']? = some b) (hbt : σ[bit]? = some (m.length - 1)) (ht : ts0 = ((maskT keep 0 ts).map (A.inv I σ (.frz fz) m)).map A.sy) (hm : m0 = (invMem I σ (.frz fz) m).map Blk.sy) (h0 : Inv ts0 m0)
      (hm1 : ∀ (ts : List A) (m : Mem), Inv ts m → m[b']? = some (.mp ag l) ∧ m[bit]? = some .dead ∧ ts[it]? = some (.one (.c (.ptr bit (.lit 0) 0 0))) ∧ t1 < ts.length ∧ tok < ts.length)
      (hbody : ∀ (ts : List A) (m : Mem), Inv ts m → ∀ (i : Nat) (z : Z) (gs : List G), l[i]? = some (.int .i64 z :: gs) → Holds P I m.length (ev I x (roundT ts t1 tok t2 ag z gs) (m.set b' .dead) fun e ts1 m1 => match e with
        | .normal => .goal (∃ (ts2 : List A) (m2 : Mem) (σ fz keep : List Nat), σ.Nodup ∧ σ.take p = List.range p ∧ σ[b']? = some b' ∧ σ[bit]? = some bit ∧ ts1.all (A.notRow b') = true ∧ m1.all (Blk.notRow b') = true ∧
            ts2 = ((maskT keep 0 ts1).map (A.inv I σ (.frz fz) (m1.set b' (.mp ag l)))).map A.sy ∧ m2 = (invMem I σ (.frz fz) (m1.set b' (.mp ag l))).map Blk.sy ∧ Inv ts2 m2)
        | .exit _ => .fail
        | .ret => .fail))
      (hend : ∀ (ts : List A) (m : Mem), Inv ts m → Holds P I p (k (overT ts t1 tok) m)) : Holds P I p (.mloop x b ag l it t1 tok t2 ts m k)
  | rfun {p : Nat} {c : Code} {ts : List A} {m : Mem} {k : List A → Mem → Tree} (R : List A → Mem → Prop) (hs : RSpec P c ts m R) (h : ∀ (ts : List A) (m : Mem), R ts m → Holds P I p (k ts m)) : Holds P I p (.rfun c ts m k)
  | call {p : Nat} {f : FuncId} {args : List V1} {m : Mem} {wr : Option (List Nat × Nat)} {k : A → Mem → Tree} (σ fz : List Nat) (qs : List How) (args' : List V1) (m0 : Mem) (R : A → Mem → Prop)
      (hc : LValid P f args' m0 R) (hσ : σ.Nodup) (hw : ∀ b ∈ σ ++ fz, okW wr b = true ∧ b < m.length) (hfz : ∀ b ∈ fz, b ∉ σ) (hq : ∀ q ∈ qs, ∀ l, q = .frz l → ∀ b ∈ l, b ∈ fz)
      (ha : args' = invArgs I σ m qs args) (hm : m0 = invMem I σ .keep m)
      (h : ∀ v m1, R v m1 → Holds P I p (k (v.up σ m.length) (upMem σ fz m m1))) : Holds P I p (.call f args m wr k)
  | callR {p : Nat} {f : FuncId} {args : List V1} {m : Mem} {wr : Option (List Nat × Nat)} {k : A → Mem → Tree} (σ1 fz1 fz : List Nat) (qs : List How) (args' : List V1) (R : A → Mem → Prop)
      (hc : LValid P f args' [] R) (hσ : σ1.Nodup) (hq : ∀ q ∈ qs, ∀ l, q = .frz l → ∀ b ∈ l, b ∈ fz)
      (ha : args' = invArgs I [] (invMem I σ1 (.frz fz1) m) qs (args.map (V1.inv I σ1 (.frz fz1) m))) (hp : ∀ v m1, R v m1 → v.plain = true) (h : ∀ v m1, R v m1 → Holds P I p (k v m)) : Holds P I p (.call f args m wr k)
end Go.Proofs.Ytccfcenhpmdemaa.E
