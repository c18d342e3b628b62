/- Calls: other names for blocks, there and back. -/
import Derived.Test.YtccfcenhpmdemaaE8
namespace Go.Proofs.Ytccfcenhpmdemaa.E
open Go
set_option linter.unusedVariables false

section
variable {P : Program} {I : Ints} {p : Nat} {E : Env} {m : Mem} {w w' : World} {ts : List A} {a : Act}
variable {Wt : Nat → Prop}
variable {wr : Option (List Nat × Nat)} {er : Bool} {o : Oper} {k : A → Mem → Tree} {Q : Exit → Act → World → Prop}
theorem l_append {t e : TypeId} {ie : TypeInfo} {X Y : Operand} {x y : Opd} {z : List C} (hI : I = ints) (hop : o.op = .call { callee := .builtin .append, args := #[X, Y], argTypes := #[t, t] }) (ht : P.underlying t = some (.slice e)) (hi : P.info? e = some ie) (hz : zero P e = some z) (h0 : 0 < ie.size)
    (ho : opd X = some x) (ho' : opd Y = some y) (hA : At E m w ts a) (h9 : Holds P I p (evOp I er wr (.append ie.size ie.bytes z x y) ts m k)) : LRes P I p E m w wr a o k Q := by
  obtain ⟨c, hc, h8⟩ := evC_inv ho hA h9
  clear h9
  obtain ⟨d, hd, h⟩ := evC_inv ho' hA h8
  clear h8
  obtain ⟨ie', zv, h1, h2, h3, c1, c2⟩ := zero_rep hz E m w
  rw [hi] at h1
  cases h1
  have run : ∀ v' w', (Builtin.append_ #[t, t] o.type #[a.eval X, a.eval Y]).run P w = .ok v' w' → (execOp a.eval o).run P w = .ok (.value v') w' := fun v' w' hr => by
    simp [execOp, hop, resolve, invoke, builtin, hr]
  have nilc : ∀ {c : C} {u : Value}, isNilRow c = true → (c = .any ∨ CRep E m w c u) → u = .slice none 0 0 := fun {c u} hn hc => by
    cases c with
    | g x => cases x with
      | nil => rcases hc with hc | hc <;> cases hc; rfl
      | _ => cases hn
    | _ => cases hn
  intro K hK
  unfold Oper.wp
  split at h
  · rename_i n1 n2
    have e1 := nilc n1 hc
    have e2 := nilc n2 hd
    rw [run _ _ (by rw [e1, e2]; exact run_append_zero ht hi none none 0 0 0 o.type (Nat.le_refl _) w)]
    exact hK _ _ _ _ _ h (Grow.refl _ _ _ _) hA.sat (.inr GRep.nil)
  · rename_i n1 n2
    have e1 := nilc n1 hc
    split at h
    · rename_i src hsrc
      cases h with
      | most b1 b2 h =>
      have hR := rowsOf_reads hI hA.sat hsrc hd
      subst hI
      obtain ⟨v', w', E', r1, g1, g2, g3⟩ := app_nil (Wt := fun b => okW wr b = true) hA.sat o.type ht hi h2 h3 h0 hR b1 b2
      rw [run _ _ (by rw [e1]; exact r1)]
      exact hK _ _ _ _ _ h g1 g2 (.inr g3)
    · split at h
      · rename_i b es' cap _
        split at h
        · rename_i es2 rows he hm
          split at h
          · rename_i he2
            cases h with
            | most b1 b2 h =>
            obtain rfl : ie.size = es' := by simpa using he
            obtain rfl : ie.size = es2 := by simpa using he2
            rcases hd with hd | hd
            · cases hd
            obtain ⟨v', w', E', r1, g1, g2, g3⟩ := app_nil_lit (Wt := fun b => okW wr b = true) hA.sat o.type ht hi h2 h3 h0 hm hd b1 b2
            rw [run _ _ (by rw [e1]; exact r1)]
            exact hK _ _ _ _ _ h g1 g2 (.inr g3)
          · exact (holds_fail h).elim
        · exact (holds_fail h).elim
      · exact (holds_fail h).elim
  · rename_i n1 n2
    have e2 := nilc n2 hd
    have fin : ∀ (b : Nat) (blk : Blk), m[b]? = some blk → blk.live → (∃ A_ n c', a.eval X = .slice A_ n c' ∧ n ≤ c') → Holds P I p (k (.one (.c c)) m) → Oper.upon P o a K Q ((execOp a.eval o).run P w) := by
      rintro b blk hb hl ⟨A_, n, c', e1, e3⟩ h
      rw [run _ _ (by rw [e1, e2]; exact run_append_zero ht hi A_ none n c' 0 o.type e3 w)]
      rw [← e1]
      exact hK _ _ _ _ _ h (Grow.refl _ _ _ _) hA.sat hc
    cases c with
    | row b es' cap =>
      simp only at h
      split at h
      · exact (holds_fail h).elim
      · rename_i blk hb hm
        have hl : blk.live := by cases blk <;> first | trivial | exact absurd rfl hb
        refine fin b blk hm hl ?_ h
        rcases hc with hc | ⟨h0', ho', hc⟩
        · cases hc
        obtain ⟨k1, k2, ⟨e1, e2⟩ | ⟨a', base, c, e1, e2, e3, _⟩⟩ := hc blk hm hl
        · exact ⟨none, 0, 0, e2, Nat.le_refl _⟩
        · exact ⟨_, _, c, e2, e3⟩
      · exact (holds_fail h).elim
    | sl b i es' n cap =>
      simp only at h
      split at h
      · exact (holds_fail h).elim
      · rename_i blk hb hm
        have hl : blk.live := by cases blk <;> first | trivial | exact absurd rfl hb
        refine fin b blk hm hl ?_ h
        rcases hc with hc | ⟨h0', ho', hc⟩
        · cases hc
        obtain ⟨k1, k2, k3, ⟨e1, e2, _⟩ | ⟨a', base, c, off, e1, e2, e3, e4, _⟩⟩ := hc blk hm hl
        · exact ⟨none, 0, 0, e2, Nat.le_refl _⟩
        · exact ⟨_, _, c, e2, e4⟩
      · exact (holds_fail h).elim
    | _ => exact (holds_fail h).elim
  · split at h
    · rename_i old src b hold hsrc hb
      split at h
      · rename_i hW
        cases h with
        | most b1 b2 h =>
        have hD := rowsOf_reads hI hA.sat hold hc
        have hR := rowsOf_reads hI hA.sat hsrc hd
        -- the name's block
        have key : ∃ blk : Blk, m[b]? = some blk ∧ blk.live ∧ ((E.ρ b = none ∧ a.eval X = .slice none 0 0 ∧ old = []) ∨ ∃ a_ base off c', E.ρ b = some (a_, base) ∧ a.eval X = .slice (some (at_ a_ off)) old.length c' ∧ w.there a_ off (c' * ie.size)) := by
          obtain ⟨A_, c', eX, hlc, _, _⟩ := hD
          cases c with
          | row b' es' cap =>
            cases hb
            have hk : ∃ blk : Blk, m[b]? = some blk ∧ blk.live ∧ ie.size = es' := by
              obtain ⟨old0, hold0⟩ := rowsOf_some hold
              simp only [rowsOf0] at hold0
              split at hold0
              · rename_i he hm; exact ⟨_, hm, trivial, by simpa using he⟩
              · rename_i he hm; exact ⟨_, hm, trivial, by simpa using he⟩
              · cases hold0
            obtain ⟨blk, hm, hl, rfl⟩ := hk
            rcases hc with hc | ⟨h0', ho', hc⟩
            · cases hc
            obtain ⟨k1, k2, ⟨e1, e2⟩ | ⟨a', base, c, e1, e2, e3, e4, e5⟩⟩ := hc blk hm hl
            · refine ⟨blk, hm, hl, .inl ⟨e1, e2, ?_⟩⟩
              rw [e2] at eX
              simp only [Value.slice.injEq] at eX
              exact List.eq_nil_of_length_eq_zero eX.2.1.symm
            · rw [e2] at eX
              simp only [Value.slice.injEq] at eX
              exact ⟨blk, hm, hl, .inr ⟨a', base, base, c, e1, by rw [e2, eX.2.1], e5⟩⟩
          | sl b' i es' n cap =>
            cases hb
            have hk : ∃ blk : Blk, m[b]? = some blk ∧ blk.live ∧ ie.size = es' := by
              obtain ⟨old0, hold0⟩ := rowsOf_some hold
              simp only [rowsOf0] at hold0
              split at hold0
              · rename_i he hm; exact ⟨_, hm, trivial, by simpa using he⟩
              · rename_i he hm; exact ⟨_, hm, trivial, by simpa using he⟩
              · cases hold0
            obtain ⟨blk, hm, hl, rfl⟩ := hk
            rcases hc with hc | ⟨h0', ho', hc⟩
            · cases hc
            obtain ⟨k1, k2, k3, ⟨e1, e2, e3⟩ | ⟨a', base, c, off, e1, e2, e3, e4, e5, e6⟩⟩ := hc blk hm hl
            · refine ⟨blk, hm, hl, .inl ⟨e1, e2, ?_⟩⟩
              rw [e2] at eX
              simp only [Value.slice.injEq] at eX
              exact List.eq_nil_of_length_eq_zero eX.2.1.symm
            · rw [e2] at eX
              simp only [Value.slice.injEq] at eX
              refine ⟨blk, hm, hl, .inr ⟨a', base, off, c, e1, by rw [e2, eX.2.1], ?_⟩⟩
              rcases Nat.eq_zero_or_pos c with rfl | hc0
              · intro j hj; simp at hj
              · rw [e3 hc0]; exact e6
          | _ => cases hb
        obtain ⟨blk, hm, hl, hk⟩ := key
        subst hI
        rcases hk with ⟨e1, e2, rfl⟩ | ⟨a_, base, off, c', e1, e2, e3⟩
        · obtain ⟨q0, q1⟩ := kill_grow (Wt := fun b => okW wr b = true) hA.sat b
          have hR' : Reads E w ie.size src (a.eval Y) := hR
          obtain ⟨v', w', E', r1, g1, g2, g3⟩ := app_nil (Wt := fun b => okW wr b = true) q1 o.type ht hi h2 h3 h0 hR' (by simpa [ints] using b1) (by simpa [ints] using b2)
          rw [run _ _ (by rw [e2]; exact r1)]
          have hlen : (m.set b .dead).length = m.length := by simp
          rw [hlen] at g3
          exact hK _ _ _ _ _ h (q0.trans g1 (fun _ _ h => h)) g2 (.inr g3)
        · rw [e2] at hD
          obtain ⟨v', w', E', r1, g1, g2, g3⟩ := app_row (Wt := fun b => okW wr b = true) hA.sat o.type ht hi h2 h3 h0 hm hl e1 hW hD e3 hR b1 b2
          rw [run _ _ (by rw [e2]; exact r1)]
          exact hK _ _ _ _ _ h g1 g2 (.inr g3)
      · exact (holds_fail h).elim
    · unfold appLit at h
      split at h
      · rename_i b1 es1 n b2 es2 cap2 _ _ _
        split at h
        · rename_i e1 r1 rows1 e2 r2 rows2 hm1 hm2
          split at h
          · rename_i x1 x2 x3 x4 x5
            cases h with
            | most q1 q2 h =>
            obtain rfl : ie.size = es1 := by simpa using x1
            obtain rfl : ie.size = es2 := by simpa using x2
            obtain rfl : ie.size = e1 := by simpa using x3
            obtain rfl : ie.size = e2 := by simpa using x4
            rcases hc with hc | hc
            · cases hc
            rcases hd with hd | hd
            · cases hd
            obtain ⟨v', w', E', r1', g1, g2, g3⟩ := app_grow_lit (Wt := fun b => okW wr b = true) hA.sat o.type ht hi h2 h3 h0 hm1 hm2 (by simp) (by simp) (by simpa using x5) hc hd q1 q2
            rw [run _ _ r1']
            exact hK _ _ _ _ _ h g1 g2 (.inr g3)
          · exact (holds_fail h).elim
        · exact (holds_fail h).elim
      · rename_i b1 es1 b2 es2 cap2 _ _ _
        split at h
        · rename_i e1 r1 rows1 e2 r2 rows2 hm1 hm2
          split at h
          · rename_i x1 x2 x3 x4 x5
            cases h with
            | most q1 q2 h =>
            obtain rfl : ie.size = es1 := by simpa using x1
            obtain rfl : ie.size = es2 := by simpa using x2
            obtain rfl : ie.size = e1 := by simpa using x3
            obtain rfl : ie.size = e2 := by simpa using x4
            rcases hc with hc | hc
            · cases hc
            rcases hd with hd | hd
            · cases hd
            obtain ⟨v', w', E', r1', g1, g2, g3⟩ := app_any_lit (Wt := fun b => okW wr b = true) hA.sat o.type ht hi h2 h3 h0 hm1 hm2 (by simp) (by simp) x5 hc hd q1 q2
            rw [run _ _ r1']
            exact hK _ _ _ _ _ h g1 g2 (.inr g3)
          · exact (holds_fail h).elim
        · exact (holds_fail h).elim
      · exact (holds_fail h).elim
end
end Go.Proofs.Ytccfcenhpmdemaa.E
