/- A function's contract by the evaluator; what a proof says of a tree; laws. -/
import Derived.Test.YtdfbpdbfiffpbaaE12
import Derived.KernelRfl
namespace Go.Proofs.Ytdfbpdbfiffpbaa.E
open Go
set_option linter.unusedVariables false
set_option linter.unusedSectionVars false

section
variable {P : Program} {I : Ints} {p : Nat} {E E0 : Env} {m m0 : Mem} {w w0 : World} {ts : List A} {a : Act}
theorem ld_run {t : TypeId} {ag : Option Nat} {c : C} {u : Value} {k : V1 → Tree} (hag : agOf P t = some ag) (hs : Sat E m w) (hc : c = .any ∨ CRep E m w c u) (h : Holds P I p (ld ag c m k)) :
    ∃ v av x, u = .pointer (some x) ∧ Holds P I p (k av) ∧ V1Rep E m w av v ∧ (loadVar t x).run P w = .ok v w := by
  suffices hk : ∃ a_ off j row, u = .pointer (some (at_ a_ (off + j))) ∧ Holds P I p (seg row j ag k) ∧
      (∀ (jj : Nat) (c : C), row[jj]? = some c → ∃ u, w.cell? (at_ a_ (off + jj)) = some u ∧ CRep E m w c u) by
    obtain ⟨a_, off, j, row, h1, h2, h3⟩ := hk
    obtain ⟨av, v, g1, g2, g3⟩ := load_at hag h2 h3
    exact ⟨v, av, _, h1, g1, g2, g3 w rfl⟩
  cases c with
  | gp row j =>
    simp only [ld] at h
    rcases hc with hc | ⟨a_, off, h1, h2, h3⟩
    · cases hc
    · refine ⟨a_, off, j, row.map .g, h1, h, fun jj c hj => ?_⟩
      rw [List.getElem?_map] at hj
      cases hq : row[jj]? with
      | none => simp [hq] at hj
      | some g =>
        simp [hq] at hj
        subst hj
        exact h3 jj g hq
  | ptr b i es j =>
    simp only [ld] at h
    rcases hc with hc | ⟨hb, a_, base, h1, h2⟩
    · cases hc
    cases hm : m[b]? with
    | none => rw [hm] at h; exact (holds_fail h).elim
    | some blk =>
      rw [hm] at h
      cases blk with
      | dead => exact (holds_fail h).elim
      | mp _ _ => exact (holds_fail h).elim
      | lit es' rows =>
        try simp only at h
        cases i with
        | sym i =>
          try simp only at h
          split at h
          · rename_i heq he
            cases heq
          · rename_i i'' heq he
            cases heq
            split at h
            · rename_i l hl
              cases h with
              | nth r hr h =>
              obtain rfl : es = es' := by simpa using he
              rcases hs.rep b _ hm trivial with ⟨e, _⟩ | ⟨a', base', e, g1, g2, g3⟩
              · rw [e] at h1; cases h1
              · rw [e] at h1
                cases h1
                refine ⟨a_, base + i * es, j, _, by rw [h2, Nat.add_assoc]; rfl, h, fun jj c hj => ?_⟩
                obtain ⟨g, hg, rfl⟩ := sy_row hj
                obtain ⟨u, q1, q2⟩ := (g3 i _ (ground_row hl hr)).2 jj _ hg
                exact ⟨u, by rw [Nat.add_assoc]; exact q1, G_sy q2⟩
            · exact (holds_fail h).elim
          · exact (holds_fail h).elim
        | lit i =>
          try simp only at h
          split at h
          · rename_i i'' heq he
            cases heq
            split at h
            · rename_i row hr
              obtain rfl : es = es' := by simpa using he
              rcases hs.rep b _ hm trivial with ⟨e, _⟩ | ⟨a', base', e, g1, g2, g3⟩
              · rw [e] at h1; cases h1
              · rw [e] at h1
                cases h1
                refine ⟨a_, base + i * es, j, row, by rw [h2, Nat.add_assoc]; rfl, h, fun jj c hj => ?_⟩
                obtain ⟨u, q1, q2⟩ := (g3 i row hr).2 jj c hj
                exact ⟨u, by rw [Nat.add_assoc]; exact q1, q2⟩
            · exact (holds_fail h).elim
          · rename_i heq he
            cases heq
          · exact (holds_fail h).elim
      | sym es' l =>
        try simp only at h
        split at h
        · rename_i he
          obtain rfl : es = es' := by simpa using he
          cases h with
          | nth r hr h =>
          rcases hs.rep b _ hm trivial with ⟨e, _⟩ | ⟨a', base', e, g1, g2, g3⟩
          · rw [e] at h1; cases h1
          · rw [e] at h1
            cases h1
            refine ⟨a_, base + i.val * es, j, r.map .g, by rw [h2, Nat.add_assoc], h, fun jj c hj => ?_⟩
            obtain ⟨u, q1, q2⟩ := (g3 i.val (r.map .g) (by simp [Blk.rows, hr])).2 jj c hj
            exact ⟨u, by rw [Nat.add_assoc]; exact q1, q2⟩
        · exact (holds_fail h).elim
  | _ => exact (holds_fail h).elim
/-- A result. -/
def pull (tmps : Array Value) : ResultVar → Sem Value
  | .tmp t => pure (tmps.getD t undef)
  | .cell c t => do loadVar t (← asAddr (tmps.getD c undef))
theorem pull_tmp (tmps : Array Value) (t : Tmp) : pull tmps (.tmp t) = pure (tmps.getD t undef) := rfl
theorem pull_cell (tmps : Array Value) (c : Tmp) (t : TypeId) : pull tmps (.cell c t) = (asAddr (tmps.getD c undef) >>= fun x => loadVar t x) := rfl
theorem asAddr_run {u : Value} {x : Addr} (h : u = .pointer (some x)) (w : World) : (asAddr u).run P w = .ok x w := by subst h; rfl
theorem results_eq (fn : Func) (tmps : Array Value) : results fn tmps = ((fun vs : Array Value => if h : vs.size = 1 then vs[0] else .tuple vs) <$> (List.toArray <$> fn.results.toList.mapM (pull tmps))) := by
  rw [← Array.mapM_eq_mapM_toList]
  rfl
theorem res_inv : ∀ {l : List ResultVar} {xs : List XRes} {k : List V1 → Tree}, compRes P l = some xs → At E m w ts a → Holds P I p (evRes xs ts m k) →
    ∃ (vs : List V1) (us : List Value), Holds P I p (k vs) ∧ us.length = vs.length ∧ (∀ (i : Nat) (v : V1), vs[i]? = some v → ∃ u, us[i]? = some u ∧ V1Rep E m w v u) ∧ (l.mapM (pull a.tmps)).run P w = .ok us w
  | [], xs, k, hc, hA, h => by
    cases hc
    exact ⟨[], [], h, rfl, fun i v h => by simp at h, by simp⟩
  | .tmp t :: l, xs, k, hc, hA, h => by
    simp only [compRes] at hc
    obtain ⟨xl, hl, rfl⟩ := Option.map_eq_some_iff.1 hc
    obtain ⟨v, hv, h⟩ := ev1_inv (X := .tmp t) rfl hA h
    obtain ⟨vs, us, h1, h2, h3, h4⟩ := res_inv hl hA h
    refine ⟨v :: vs, a.tmps.getD t undef :: us, h1, by simp [h2], fun i x hi => ?_, ?_⟩
    · cases i with
      | zero => simp at hi; subst hi; exact ⟨_, rfl, hv⟩
      | succ i => simpa using h3 i x (by simpa using hi)
    · rw [List.mapM_cons, pull_tmp]
      simp only [Sem.run_bind, Sem.run_pure, Result.andThen_ok, h4]
  | .cell c t :: l, xs, k, hc, hA, h => by
    simp only [compRes] at hc
    split at hc
    · rename_i ag xl hag hl
      cases hc
      obtain ⟨c', hc', h⟩ := evC_inv (X := .tmp c) rfl hA h
      obtain ⟨u, v, x, hx, h, hv, hrun⟩ := ld_run hag hA.sat hc' h
      obtain ⟨vs, us, h1, h2, h3, h4⟩ := res_inv hl hA h
      have hx' : a.tmps.getD c undef = .pointer (some x) := hx
      refine ⟨v :: vs, u :: us, h1, by simp [h2], fun i y hi => ?_, ?_⟩
      · cases i with
        | zero => simp at hi; subst hi; exact ⟨_, rfl, hv⟩
        | succ i => simpa using h3 i y (by simpa using hi)
      · rw [List.mapM_cons, pull_cell]
        simp only [Sem.run_bind, Sem.run_pure, Result.andThen_ok, h4, asAddr_run (P := P) hx' w, hrun]
    · cases hc
theorem end_inv {fn : Func} {xs : List XRes} {k : A → Mem → Tree} (hc : compRes P fn.results.toList = some xs) (hA : At E m w ts a) (h : Holds P I p (evEnd xs ts m k)) :
    ∃ v u, Holds P I p (k v m) ∧ ARep E m w v u ∧ (results fn a.tmps).run P w = .ok u w := by
  obtain ⟨vs, us, h1, h2, h3, h4⟩ := res_inv hc hA h
  have hm : (results fn a.tmps).run P w = .ok (if h : us.toArray.size = 1 then us.toArray[0] else .tuple us.toArray) w := by
    rw [results_eq]
    simp only [Sem.run_map, h4, Result.andThen_ok]
  have tup : vs.length ≠ 1 → ARep E m w (.tup vs) (if h : us.toArray.size = 1 then us.toArray[0] else .tuple us.toArray) := fun hn => by
    rw [dif_neg (by simp [h2, hn])]
    exact ⟨us.toArray, rfl, by simp [h2], fun i v hi => by simpa using h3 i v hi⟩
  match vs, h1, h2, h3, tup with
  | [v], h1, h2, h3, _ =>
    match us, h2, hm, h3 with
    | [u], _, hm, h3 =>
      obtain ⟨u', g1, g2⟩ := h3 0 v rfl
      simp at g1
      subst g1
      exact ⟨.one v, u, h1, g2, hm⟩
  | [], h1, h2, h3, tup => exact ⟨.tup [], _, h1, tup (by simp), hm⟩
  | v :: v' :: r, h1, h2, h3, tup => exact ⟨.tup (v :: v' :: r), _, h1, tup (by simp), hm⟩
theorem bodyPost_put {fn : Func} {R : Ending → World → Prop} (c : List PanicEntry) (d : Option Tmp) (v : Value) (a : Act) (w : World) (h : bodyPost P fn R (.panic c) (a.put d v) w) : bodyPost P fn R (.panic c) a w := ⟨by rw [← put_defers a d v]; exact h.1, h.2⟩
/-- What an evaluated body says of calls. -/
theorem fn_sim (hI : I = ints) (hmo : P.follows .mixedOrders = true) {j : List Nat} {f : FuncId} {x : XF} (hx : compFj P j f = some x) {args : List V1} {R : A → Mem → Prop}
    (h : ∀ Post : A → Mem → Tree, (∀ (v : A) (m : Mem) (σ fz : List Nat) (v1 : A) (m1 : Mem), σ.Nodup → σ.take m0.length = List.range m0.length → v1 = v.inv I σ (.frz fz) m → m1 = invMem I σ (.frz fz) m → v1.free = true → m1.all Blk.free = true → R v1 m1 → Holds P I m0.length (Post v m)) →
      Holds P I m0.length (evF I x args m0 Post)) : LValid P f args m0 R := by
  intro E w vs hs hsz hrep
  unfold compFj at hx
  split at hx
  · rename_i fn hf
    split at hx
    · rename_i c r hb hr
      obtain ⟨xb, hxb, rfl⟩ := Option.map_eq_some_iff.1 hx
      refine calls_of_wp hf hb ?_
      have h1 := h (fun v m => .goal (∃ (σ fz : List Nat) (v1 : A) (m1 : Mem), σ.Nodup ∧ σ.take m0.length = List.range m0.length ∧ v1 = v.inv I σ (.frz fz) m ∧ m1 = invMem I σ (.frz fz) m ∧ v1.free = true ∧ m1.all Blk.free = true ∧ R v1 m1))
        (fun v m σ fz v1 m1 a1 a2 a3 a4 a5 a6 a7 => .goal ⟨σ, fz, v1, m1, a1, a2, a3, a4, a5, a6, a7⟩)
      have hts : TsRep E m0 w (args.map A.one ++ List.replicate (fn.ntmps - args.length) (.one (.c .any))) (vs ++ Array.replicate (fn.ntmps - vs.size) undef) := by
        refine ⟨by simp [hsz], fun t y ht => ?_⟩
        rw [List.getElem?_append] at ht
        split at ht
        · rename_i hlt
          rw [List.length_map] at hlt
          rw [List.getElem?_map] at ht
          obtain ⟨v, hv, rfl⟩ := Option.map_eq_some_iff.1 ht
          obtain ⟨u, g1, g2⟩ := hrep t v hv
          rw [Array.getD_eq_getD_getElem?, Array.getElem?_append_left (by omega), g1]
          exact g2
        · rw [List.getElem?_replicate] at ht
          split at ht
          · cases ht
            exact any_rep _
          · cases ht
      have hN : Now E m0 w E m0 w (args.map A.one ++ List.replicate (fn.ntmps - args.length) (.one (.c .any))) { tmps := vs ++ Array.replicate (fn.ntmps - vs.size) undef, defers := [] } := ⟨⟨hs, hts, rfl⟩, Grow.refl _ _ _ _⟩
      have fin : ∀ {ts' : List A} {m' : Mem} {E' : Env} {w' : World} {a' : Act} {R' : Ending → World → Prop}, (∀ e w', (∃ u v m' E', e = .returned u ∧ R v m' ∧ ARep E' m' w' v u ∧ v.free = true ∧ (∀ (id : Nat) (blk : Blk), m'[id]? = some blk → blk.free = true) ∧ Sat E' m' w' ∧ Grow (fun _ => True) E m0 w E' m' w') → R' e w') →
          Holds P I m0.length (evEnd r ts' m' fun v m => .goal (∃ (σ fz : List Nat) (v1 : A) (m1 : Mem), σ.Nodup ∧ σ.take m0.length = List.range m0.length ∧ v1 = v.inv I σ (.frz fz) m ∧ m1 = invMem I σ (.frz fz) m ∧ v1.free = true ∧ m1.all Blk.free = true ∧ R v1 m1)) →
          Now E m0 w E' m' w' ts' a' → a'.defers = [] ∧ ∃ v, (results fn a'.tmps).run P w' = .ok v w' ∧ R' (.returned v) w' := by
        intro ts' m' E' w' a' R' hR' hk hN'
        obtain ⟨v, u, h2, h3, h4⟩ := end_inv hr hN'.toAt hk
        cases h2 with
        | goal h2 =>
        obtain ⟨σ, fz, v1, m1, a1, a2, a3, a4, a5, a6, a7⟩ := h2
        obtain ⟨E2, hN2, hv2⟩ := Now.tidy (keep := []) hI hN' (fz := fz) a1 a2
        rw [← a4] at hN2
        refine ⟨hN'.defers, u, h4, hR' _ _ ⟨u, v1, m1, E2, rfl, a7, ?_, a5, fun id blk hb => List.all_eq_true.1 a6 blk (List.mem_of_getElem? hb), hN2.sat, hN2.grow⟩⟩
        rw [a3, a4]
        exact hv2 _ _ h3
      refine ev_sim hI hmo 1000 c xb hxb rfl (fun c d v a w hq => bodyPost_put c d v a w hq) hN h1 (fun e ts' m' E' w' a' hk hN' => ?_)
      cases e with
      | exit i => exact (holds_fail hk).elim
      | normal => exact fin (fun _ _ h => h) hk hN'
      | ret => exact fin (fun _ _ h => h) hk hN'
    · cases hx
  · cases hx
theorem kills_grow {Wt : Nat → Prop} : ∀ (kl : List Nat) {m : Mem}, Sat E m w → Grow Wt E m w E (kill m kl) w ∧ Sat E (kill m kl) w
  | [], m, hs => ⟨Grow.refl _ _ _ _, hs⟩
  | b :: kl, m, hs => by
    obtain ⟨h1, h2⟩ := kill_grow (Wt := Wt) hs b
    obtain ⟨h3, h4⟩ := kills_grow kl h2
    exact ⟨h1.trans h3 (fun _ _ h => h), h4⟩
/-- The same; blocks kl are forgotten at the end. -/
theorem fn_simk (hI : I = ints) (hmo : P.follows .mixedOrders = true) {j : List Nat} {f : FuncId} {x : XF} (hx : compFj P j f = some x) {args : List V1} {R : A → Mem → Prop}
    (h : ∀ Post : A → Mem → Tree, (∀ (v : A) (m : Mem) (σ fz kl : List Nat) (v1 : A) (m1 : Mem), σ.Nodup → σ.take m0.length = List.range m0.length → v1 = v.inv I σ (.frz fz) m → m1 = kill (invMem I σ (.frz fz) m) kl → v1.free = true → m1.all Blk.free = true → R v1 m1 → Holds P I m0.length (Post v m)) →
      Holds P I m0.length (evF I x args m0 Post)) : LValid P f args m0 R := by
  intro E w vs hs hsz hrep
  unfold compFj at hx
  split at hx
  · rename_i fn hf
    split at hx
    · rename_i c r hb hr
      obtain ⟨xb, hxb, rfl⟩ := Option.map_eq_some_iff.1 hx
      refine calls_of_wp hf hb ?_
      have h1 := h (fun v m => .goal (∃ (σ fz kl : List Nat) (v1 : A) (m1 : Mem), σ.Nodup ∧ σ.take m0.length = List.range m0.length ∧ v1 = v.inv I σ (.frz fz) m ∧ m1 = kill (invMem I σ (.frz fz) m) kl ∧ v1.free = true ∧ m1.all Blk.free = true ∧ R v1 m1))
        (fun v m σ fz kl v1 m1 a1 a2 a3 a4 a5 a6 a7 => .goal ⟨σ, fz, kl, v1, m1, a1, a2, a3, a4, a5, a6, a7⟩)
      have hts : TsRep E m0 w (args.map A.one ++ List.replicate (fn.ntmps - args.length) (.one (.c .any))) (vs ++ Array.replicate (fn.ntmps - vs.size) undef) := by
        refine ⟨by simp [hsz], fun t y ht => ?_⟩
        rw [List.getElem?_append] at ht
        split at ht
        · rename_i hlt
          rw [List.length_map] at hlt
          rw [List.getElem?_map] at ht
          obtain ⟨v, hv, rfl⟩ := Option.map_eq_some_iff.1 ht
          obtain ⟨u, g1, g2⟩ := hrep t v hv
          rw [Array.getD_eq_getD_getElem?, Array.getElem?_append_left (by omega), g1]
          exact g2
        · rw [List.getElem?_replicate] at ht
          split at ht
          · cases ht
            exact any_rep _
          · cases ht
      have hN : Now E m0 w E m0 w (args.map A.one ++ List.replicate (fn.ntmps - args.length) (.one (.c .any))) { tmps := vs ++ Array.replicate (fn.ntmps - vs.size) undef, defers := [] } := ⟨⟨hs, hts, rfl⟩, Grow.refl _ _ _ _⟩
      have fin : ∀ {ts' : List A} {m' : Mem} {E' : Env} {w' : World} {a' : Act} {R' : Ending → World → Prop}, (∀ e w', (∃ u v m' E', e = .returned u ∧ R v m' ∧ ARep E' m' w' v u ∧ v.free = true ∧ (∀ (id : Nat) (blk : Blk), m'[id]? = some blk → blk.free = true) ∧ Sat E' m' w' ∧ Grow (fun _ => True) E m0 w E' m' w') → R' e w') →
          Holds P I m0.length (evEnd r ts' m' fun v m => .goal (∃ (σ fz kl : List Nat) (v1 : A) (m1 : Mem), σ.Nodup ∧ σ.take m0.length = List.range m0.length ∧ v1 = v.inv I σ (.frz fz) m ∧ m1 = kill (invMem I σ (.frz fz) m) kl ∧ v1.free = true ∧ m1.all Blk.free = true ∧ R v1 m1)) →
          Now E m0 w E' m' w' ts' a' → a'.defers = [] ∧ ∃ v, (results fn a'.tmps).run P w' = .ok v w' ∧ R' (.returned v) w' := by
        intro ts' m' E' w' a' R' hR' hk hN'
        obtain ⟨v, u, h2, h3, h4⟩ := end_inv hr hN'.toAt hk
        cases h2 with
        | goal h2 =>
        obtain ⟨σ, fz, kl, v1, m1, a1, a2, a3, a4, a5, a6, a7⟩ := h2
        obtain ⟨E2, hN2, hv2⟩ := Now.tidy (keep := []) hI hN' (fz := fz) a1 a2
        obtain ⟨k1, k2⟩ := kills_grow (Wt := fun _ => True) kl hN2.sat
        rw [← a4] at k1 k2
        refine ⟨hN'.defers, u, h4, hR' _ _ ⟨u, v1, m1, E2, rfl, a7, ?_, a5, fun id blk hb => List.all_eq_true.1 a6 blk (List.mem_of_getElem? hb), k2, hN2.grow.trans k1 (fun _ _ h => h)⟩⟩
        rw [a3]
        exact (hv2 _ _ h3).step k1.toStep
      refine ev_sim hI hmo 1000 c xb hxb rfl (fun c d v a w hq => bodyPost_put c d v a w hq) hN h1 (fun e ts' m' E' w' a' hk hN' => ?_)
      cases e with
      | exit i => exact (holds_fail hk).elim
      | normal => exact fin (fun _ _ h => h) hk hN'
      | ret => exact fin (fun _ _ h => h) hk hN'
    · cases hx
  · cases hx
end
end Go.Proofs.Ytdfbpdbfiffpbaa.E
