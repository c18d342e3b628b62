/- What a proof uses: loops by a next step, a nil slice as a row of its own, a law's answer. -/
import Derived.Test.YtccfcenhpmdemaaE13
namespace Go.Proofs.Ytccfcenhpmdemaa.E
open Go
set_option linter.unusedVariables false
set_option linter.unusedSectionVars false

/-- A frame of n slots: these values, letters elsewhere. -/
def fr (n : Nat) (l : List (Nat × A)) : List A := l.foldl (fun ts x => ts.set x.1 x.2) (List.replicate n (.one (.c .any)))
abbrev i64 (z : Int) : A := .one (.c (.g (.int .i64 (.sym z))))
abbrev u16 (z : Int) : A := .one (.c (.g (.int .u16 (.sym z))))
abbrev u8 (z : Int) : A := .one (.c (.g (.int .u8 (.sym z))))
abbrev boo (b : Bool) : A := .one (.c (.g (.bool (.sym b))))
abbrev gi (k : IntKind) (z : Int) : V1 := .c (.g (.int k (.sym z)))
abbrev gb (b : Bool) : V1 := .c (.g (.bool (.sym b)))
/-- A list of numbers as rows. -/
def nrow (k : IntKind) (l : List Int) : List (List G) := l.map fun x => [.int k (.sym x)]

theorem nrow_get (k : IntKind) (l : List Int) (i : Nat) (r : List G) (h : (nrow k l)[i]? = some r) : ∃ x : Int, r = [.int k (.sym x)] := by
  unfold nrow at h
  rw [List.getElem?_map] at h
  obtain ⟨x, hx, rfl⟩ := Option.map_eq_some_iff.1 h
  exact ⟨x, rfl⟩
section
variable {P : Program} {I : Ints} {p : Nat}
theorem br_t {b : Bool} {t e : Unit → Tree} (h : b = true) (h1 : Holds P I p (t ())) : Holds P I p (.br b t e) := .br (fun _ => h1) (fun h2 => by rw [h] at h2; cases h2)
theorem br_f {b : Bool} {t e : Unit → Tree} (h : b = false) (h1 : Holds P I p (e ())) : Holds P I p (.br b t e) := .br (fun h2 => by rw [h] at h2; cases h2) (fun _ => h1)
theorem Holds.loop_next {x : X} {ts : List A} {m : Mem} {k : Ex → List A → Mem → Tree} (Inv : Nat → List A → Mem → Prop) (n : Nat) (ts0 : List A) (m0 : Mem) (σ fz keep : List Nat)
    (hσ : σ.Nodup) (hp : σ.take p = List.range p) (ht : ts0 = ((maskT keep 0 ts).map (A.inv I σ (.frz fz) m)).map A.sy) (hm : m0 = (invMem I σ (.frz fz) m).map Blk.sy) (h0 : Inv n ts0 m0)
    (h : ∀ (next : List A → Mem → Tree) (n : Nat), (∀ (ts : List A) (m : Mem) (n' : Nat) (σ fz keep : List Nat) (ts1 : List A) (m1 : Mem), n' < n → σ.Nodup → σ.take p = List.range p → ts1 = ((maskT keep 0 ts).map (A.inv I σ (.frz fz) m)).map A.sy → m1 = (invMem I σ (.frz fz) m).map Blk.sy → Inv n' ts1 m1 → Holds P I p (next ts m)) →
      ∀ (ts : List A) (m : Mem), Inv n ts m → Holds P I p (ev I x ts m fun e ts m => match e with
        | .normal => next ts m
        | .exit i => k (.exit i) ts m
        | .ret => k .ret ts m)) : Holds P I p (.loop x ts m k) :=
  .loop Inv n ts0 m0 σ fz keep hσ hp ht hm h0 (fun n ts m hi => h _ n (fun ts m n' σ fz keep ts1 m1 a1 a2 a3 a4 a5 a6 => .goal ⟨n', ts1, m1, σ, fz, keep, a1, a2, a3, a4, a5, a6⟩) ts m hi)
theorem Holds.mloop_next {x : X} {b : Nat} {ag : Option Nat} {l : List (List G)} {it t1 tok t2 : Nat} {ts : List A} {m : Mem} {k : List A → Mem → Tree} (Inv : List A → Mem → Prop) (ts0 : List A) (m0 : Mem) (σ fz keep : List Nat) (b' bit : Nat)
    (hσ : σ.Nodup) (hp : σ.take p = List.range p) (hb : σ[b']? = some b) (hbt : σ[bit]? = some (m.length - 1)) (ht : ts0 = ((maskT keep 0 ts).map (A.inv I σ (.frz fz) m)).map A.sy) (hm : m0 = (invMem I σ (.frz fz) m).map Blk.sy) (h0 : Inv ts0 m0)
    (hm1 : ∀ (ts : List A) (m : Mem), Inv ts m → m[b']? = some (.mp ag l) ∧ m[bit]? = some .dead ∧ ts[it]? = some (.one (.c (.ptr bit (.lit 0) 0 0))) ∧ t1 < ts.length ∧ tok < ts.length)
    (hbody : ∀ (ts : List A) (m : Mem), Inv ts m → ∀ (i : Nat) (z : Z) (gs : List G), l[i]? = some (.int .i64 z :: gs) → ∀ (n : Nat) (next : List A → Mem → Tree), n = m.length → (∀ (ts1 : List A) (m1 : Mem) (σ fz keep : List Nat) (ts2 : List A) (m2 : Mem), σ.Nodup → σ.take p = List.range p → σ[b']? = some b' → σ[bit]? = some bit → ts1.all (A.notRow b') = true → m1.all (Blk.notRow b') = true →
        ts2 = ((maskT keep 0 ts1).map (A.inv I σ (.frz fz) (m1.set b' (.mp ag l)))).map A.sy → m2 = (invMem I σ (.frz fz) (m1.set b' (.mp ag l))).map Blk.sy → Inv ts2 m2 → Holds P I n (next ts1 m1)) →
      Holds P I n (ev I x (roundT ts t1 tok t2 ag z gs) (m.set b' .dead) fun e ts1 m1 => match e with
        | .normal => next ts1 m1
        | .exit _ => .fail
        | .ret => .fail))
    (hend : ∀ (ts : List A) (m : Mem), Inv ts m → Holds P I p (k (overT ts t1 tok) m)) : Holds P I p (.mloop x b ag l it t1 tok t2 ts m k) :=
  .mloop Inv ts0 m0 σ fz keep b' bit hσ hp hb hbt ht hm h0 hm1 (fun ts m hi i z gs hl => hbody ts m hi i z gs hl _ _ rfl (fun ts1 m1 σ fz keep ts2 m2 a1 a2 a3 a4 a5 a6 a7 a8 a9 => .goal ⟨ts2, m2, σ, fz, keep, a1, a2, a3, a4, a5, a6, a7, a8, a9⟩)) hend
theorem Holds.join_next {x : X} {ts : List A} {m : Mem} {k : Ex → List A → Mem → Tree} (Post : List A → Mem → Prop)
    (h : ∀ next : List A → Mem → Tree, (∀ (ts : List A) (m : Mem) (σ fz keep : List Nat) (ts1 : List A) (m1 : Mem), σ.Nodup → σ.take p = List.range p → ts1 = ((maskT keep 0 ts).map (A.inv I σ (.frz fz) m)).map A.sy → m1 = (invMem I σ (.frz fz) m).map Blk.sy → Post ts1 m1 → Holds P I p (next ts m)) →
      Holds P I p (ev I x ts m fun e ts m => match e with
        | .normal => next ts m
        | .exit i => k (.exit i) ts m
        | .ret => k .ret ts m))
    (h2 : ∀ (ts : List A) (m : Mem), Post ts m → Holds P I p (k .normal ts m)) : Holds P I p (.join x ts m k) :=
  .join Post (h _ (fun ts m σ fz keep ts1 m1 a1 a2 a3 a4 a5 => .goal ⟨ts1, m1, σ, fz, keep, a1, a2, a3, a4, a5⟩)) h2
theorem Holds.go {f : FuncId} {args args' : List V1} {m m0 : Mem} {wr : Option (List Nat × Nat)} {k : A → Mem → Tree} {R : A → Mem → Prop} (σ fz : List Nat) (qs : List How) (hc : LValid P f args' m0 R)
    (h1 : decide σ.Nodup = true) (h2 : ((σ ++ fz).all fun b => okW wr b && decide (b < m.length)) = true) (h3 : (fz.all fun b => !σ.contains b) = true) (h4 : (qs.all fun q => match q with | .frz l => l.all fun b => fz.contains b | _ => true) = true)
    (ha : args' = invArgs I σ m qs args) (hm : m0 = invMem I σ .keep m) (h : ∀ v m1, R v m1 → Holds P I p (k (v.up σ m.length) (upMem σ fz m m1))) : Holds P I p (.call f args m wr k) := by
  refine .call σ fz qs args' m0 R hc (of_decide_eq_true h1) (fun b hb => ?_) (fun b hb hn => ?_) (fun q hq l e b hb => ?_) ha hm h
  · have := List.all_eq_true.1 h2 b hb
    simpa using this
  · have := List.all_eq_true.1 h3 b hb
    simp [hn] at this
  · have := List.all_eq_true.1 h4 q hq
    subst e
    have := List.all_eq_true.1 this b hb
    simpa using this
/-- A call that reads: the blocks of fz1 are told as frozen, for the call alone, those of σ1 beside them; nothing is given up. -/
theorem Holds.goR {f : FuncId} {args args' : List V1} {m : Mem} {wr : Option (List Nat × Nat)} {k : A → Mem → Tree} {R : A → Mem → Prop} (σ1 fz1 fz : List Nat) (qs : List How) (hc : LValid P f args' [] R)
    (h1 : decide σ1.Nodup = true) (h4 : (qs.all fun q => match q with | .frz l => l.all fun b => fz.contains b | _ => true) = true)
    (ha : args' = invArgs I [] (invMem I σ1 (.frz fz1) m) qs (args.map (V1.inv I σ1 (.frz fz1) m))) (hp : ∀ v m1, R v m1 → v.plain = true) (h : ∀ v m1, R v m1 → Holds P I p (k v m)) : Holds P I p (.call f args m wr k) := by
  refine .callR σ1 fz1 fz qs args' R hc (of_decide_eq_true h1) (fun q hq l e b hb => ?_) ha hp h
  have := List.all_eq_true.1 h4 q hq
  subst e
  have := List.all_eq_true.1 this b hb
  simpa using this
theorem LValid.mono {f : FuncId} {args : List V1} {m : Mem} {R R' : A → Mem → Prop} (h : LValid P f args m R) (hR : ∀ v m1, R v m1 → R' v m1) : LValid P f args m R' := fun E w vs hs hsz hr =>
  (h E w vs hs hsz hr).mono fun e w' ⟨u, v, m', E', a1, a2, a3⟩ => ⟨u, v, m', E', a1, hR _ _ a2, a3⟩
/-- A nil slice is a row of no elements that nobody else has. -/
theorem LValid.own {f : FuncId} {args : List V1} {m : Mem} {R R' : A → Mem → Prop} (es : Nat) (h : LValid P f args m R)
    (hR : ∀ v m1, R v m1 → R' v m1 ∨ (v = .one (.c (.g .nil)) ∧ R' (.one (.c (.row m1.length es none))) (m1 ++ [.sym es []]))) : LValid P f args m R' := fun E w vs hs hsz hr =>
  (h E w vs hs hsz hr).mono fun e w' ⟨u, v, m', E', a1, a2, a3, a4, a5, a6, a7⟩ => by
    rcases hR v m' a2 with h1 | ⟨rfl, h1⟩
    · exact ⟨u, v, m', E', a1, h1, a3, a4, a5, a6, a7⟩
    · have hu : u = .slice none 0 0 := by
        rcases a3 with a3 | a3
        · cases a3
        · generalize u = u' at a3
          cases a3
          rfl
      have hg := add_grow (Wt := fun _ => True) (w' := w') a6 (blk := .sym es []) (r := none) (Nat.le_refl _) rfl rfl rfl (Stays.refl _) (fun _ _ => rfl) (fun _ _ h => by cases h) (fun _ => .inl ⟨rfl, rfl⟩)
      refine ⟨u, _, _, _, a1, h1, .inr ⟨by simp, by rw [hu]; rfl, fun blk hb hl => ?_⟩, rfl, fun id blk hb => ?_, hg.2, a7.trans hg.1 (fun _ _ h => h)⟩
      · simp at hb
        subst hb
        exact ⟨rfl, fun c' hc => (by cases hc), .inl ⟨if_pos rfl, hu⟩⟩
      · rw [List.getElem?_append] at hb
        split at hb
        · exact a5 id blk hb
        · cases hq : id - m'.length with
          | zero => rw [hq] at hb; simp at hb; subst hb; rfl
          | succ n => rw [hq] at hb; simp at hb
/-- Known arguments may be taken for letters. -/
theorem LValid.sy {f : FuncId} {args : List V1} {m : Mem} {R : A → Mem → Prop} (h : LValid P f (args.map V1.sy) m R) : LValid P f args m R := fun E w vs hs hsz hr =>
  h E w vs hs (by simp [hsz]) fun i x hi => by
    rw [List.getElem?_map] at hi
    obtain ⟨y, hy, rfl⟩ := Option.map_eq_some_iff.1 hi
    obtain ⟨u, h1, h2⟩ := hr i y hy
    exact ⟨u, h1, V1_sy h2⟩
/-- Known arguments and known cells of the memory may be taken for letters. -/
theorem LValid.syAll {f : FuncId} {args : List V1} {m : Mem} {R : A → Mem → Prop} (h : LValid P f (args.map V1.sy) (m.map Blk.sy) R) : LValid P f args m R := fun E w vs hs hsz hr => by
  have hN : Now 0 E m w E m w [] { tmps := #[], defers := [] } := ⟨⟨hs, ⟨rfl, fun t x h => by simp at h⟩, .nil rfl⟩, Grow.refl _ _ _ _, Nat.zero_le _, fun _ _ => Nat.zero_le _⟩
  have hN' := hN.sy
  refine (h E w vs hN'.sat (by simp [hsz]) (fun i x hi => ?_)).mono ?_
  · rw [List.getElem?_map] at hi
    obtain ⟨y, hy, rfl⟩ := Option.map_eq_some_iff.1 hi
    obtain ⟨u, h1, h2⟩ := hr i y hy
    exact ⟨u, h1, h2.sy⟩
  · rintro e w' ⟨u, v, m', E', a1, a2, a3, a4, a5, a6, a7⟩
    exact ⟨u, v, m', E', a1, a2, a3, a4, a5, a6, hN'.grow.trans a7 (fun _ _ h => h)⟩
/-- A Bool, a number that is told is a letter. -/
theorem LValid.boo {f : FuncId} {args : List V1} {m : Mem} {x : Bool} {Q : Mem → Prop} (h : LValid P f args m fun v m1 => ∃ b : BB, v = .one (.c (.g (.bool b))) ∧ b.val = x ∧ Q m1) : LValid P f args m fun v m1 => v = E.boo x ∧ Q m1 := fun E w vs hs hsz hr =>
  (h E w vs hs hsz hr).mono fun e w' ⟨u, v, m', E', a1, a2, a3, a4, a5⟩ => by
    obtain ⟨b, rfl, rfl, a2⟩ := a2
    refine ⟨u, _, m', E', a1, ⟨rfl, a2⟩, .inr ?_, rfl, a5⟩
    rcases a3 with a3 | a3
    · cases a3
    · generalize u = u' at a3
      cases a3
      exact .bool (.sym b.val)
theorem LValid.num {f : FuncId} {args : List V1} {m : Mem} {k : IntKind} {x : Int} {Q : Mem → Prop} (h : LValid P f args m fun v m1 => ∃ z : Z, v = .one (.c (.g (.int k z))) ∧ z.val = x ∧ Q m1) : LValid P f args m fun v m1 => v = .one (.c (.g (.int k (.sym x)))) ∧ Q m1 := fun E w vs hs hsz hr =>
  (h E w vs hs hsz hr).mono fun e w' ⟨u, v, m', E', a1, a2, a3, a4, a5⟩ => by
    obtain ⟨b, rfl, rfl, a2⟩ := a2
    refine ⟨u, _, m', E', a1, ⟨rfl, a2⟩, .inr ?_, rfl, a5⟩
    rcases a3 with a3 | a3
    · cases a3
    · generalize u = u' at a3
      cases a3
      exact .int k (.sym b.val)
def nought (w : World) : Env := ⟨fun k => k < w.heap.size, fun _ => False, fun _ => none⟩
/-- A law answers true, and leaves all that was there. -/
theorem law_calls {f : FuncId} {args : List V1} {w : World} {us : List Value} (h : LValid P f args [] (fun v _ => ∃ b : BB, b.val = true ∧ v = .one (.c (.g (.bool b)))))
    (hs : us.length = args.length) (hr : ∀ (i : Nat) (x : V1), args[i]? = some x → ∃ u, us[i]? = some u ∧ V1Rep (nought w) [] w x u) : Calls P f us.toArray w fun e w' => e = .returned (.bool true) ∧ RowKit.Below w.heap.size w w' := by
  refine (h (nought w) w us.toArray ⟨fun id blk h => by simp at h, fun i j bi bj a x y h => by simp at h, fun i bi a x h => by simp at h, fun k hk => hk.elim id (fun h => h.elim), fun id ag l h => by simp at h⟩ (by simpa using hs) (fun i x hi => by simpa using hr i x hi)).mono ?_
  rintro e w' ⟨u, v, m', E', rfl, ⟨b, hb, rfl⟩, a3, a4, a5, a6, a7⟩
  have hu : u = .bool true := by
    rcases a3 with a3 | a3
    · cases a3
    · generalize u = u' at a3
      cases a3
      rw [hb]
  refine ⟨by rw [hu], a7.os, a7.tape, a7.output, a7.size, fun k hk => a7.block k hk ?_⟩
  rintro ⟨id, blk, x, h1, _⟩
  simp at h1
theorem arg_g {w : World} {x : G} {u : Value} (h : GRep (fun k => k < w.heap.size) w x u) : V1Rep (nought w) [] w (.c (.g x)) u := .inr h
theorem args_nil {E : Env} {m : Mem} {w : World} : ∀ (i : Nat) (x : V1), ([] : List V1)[i]? = some x → ∃ u, ([] : List Value)[i]? = some u ∧ V1Rep E m w x u := fun i x h => by simp at h
theorem args_cons {E : Env} {m : Mem} {w : World} {x : V1} {u : Value} {l : List V1} {us : List Value} (h : V1Rep E m w x u) (hl : ∀ (i : Nat) (x : V1), l[i]? = some x → ∃ u, us[i]? = some u ∧ V1Rep E m w x u) :
    ∀ (i : Nat) (y : V1), (x :: l)[i]? = some y → ∃ u', (u :: us)[i]? = some u' ∧ V1Rep E m w y u' := fun i y hi => by
  cases i with
  | zero => simp at hi; subst hi; exact ⟨u, rfl, h⟩
  | succ i => simpa using hl i y (by simpa using hi)
end
end Go.Proofs.Ytccfcenhpmdemaa.E
