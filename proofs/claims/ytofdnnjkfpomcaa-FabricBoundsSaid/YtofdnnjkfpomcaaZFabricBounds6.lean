/- Contracts for FabricBounds, packed: Del FPQ QPk FA E18 UL UR US PU QPSame CRM PR PQ UM FW FD E19 FS FN FL FH H1 N1 QPlan ML FC FL2 FL3. -/
import Derived.Test.YtofdnnjkfpomcaaZFabricBounds3
import Derived.Test.YtofdnnjkfpomcaaRows
import Derived.Deep.RegionLaw
import Derived.Lib.SliceRun
import Derived.WalkKit
import Derived.Lib.Walk
import Derived.Lib.Hide
import Derived.Test.YtofdnnjkfpomcaaZFabricBounds4
import Derived.RangeFuncCalls
import Derived.RangeFuncWrites
import Derived.OrdersIn
import Derived.Test.YtofdnnjkfpomcaaZFabricBounds5
/- slices.Delete of packets, one of them: by the library's own text. -/
namespace Go.Proofs.Ytofdnnjkfpomcaa.E
open Go Go.RowKit Go.Lib
set_option linter.unusedVariables false

def zPkt : List Value := [.int .i64 0, .int .i64 0, .int .i64 0, .int .i64 0, .int .i64 0, .int .i64 0, .int .i64 0, .bool false, .slice none 0 0]
theorem infoPkt : (Try.prog.info? 33).map (fun i => (i.size, i.zero)) = some (9, some (.agg zPkt.toArray)) := by kernel_rfl
theorem clear_pkt (W : World) (ty b o c : Nat) (hc : ∀ j, j < 9 → (W.cell? ⟨b, o + j, none⟩).isSome = true) (hf : ∀ j, j < 9 → W.frozen? ⟨b, o + j, none⟩ = false) (n : Nat) (hn : n = 1) :
  (Builtin.clear_ #[28] ty #[.slice (some ⟨b, o, none⟩) n c]).run Try.prog W = .ok (.tuple #[]) (W.setCells b o zPkt) := by
 subst hn
 have hst := run_storeCells_cells (P := Try.prog) b o zPkt 0 W (by simpa [zPkt] using hc) (by simpa [zPkt] using hf) (by simp [zPkt, Value.oneCell'])
 simp only [Nat.add_zero] at hst
 obtain ⟨i, hi, hs, hz⟩ : ∃ i, Try.prog.info? 33 = some i ∧ i.size = 9 ∧ i.zero = some (.agg zPkt.toArray) := by
  have h := infoPkt
  cases hq : Try.prog.info? 33 with
  | none => rw [hq] at h; cases h
  | some i => rw [hq] at h; simp at h; exact ⟨i, rfl, h.1, h.2⟩
 have hzc : (Builtin.zeroCells (Value.agg zPkt.toArray).cells 1).toList = zPkt := by kernel_rfl
 have hzv : (zeroValue 33).run Try.prog W = .ok (.agg zPkt.toArray) W := by simp [zeroValue, typeInfo, hi, hz]
 simp [Builtin.clear_, run_underlying Try.underlying28, hzv, hzc, hst]
set_option maxRecDepth 100000 in
set_option maxHeartbeats 4000000 in
theorem del_run (w : World) (a off c n i j0 : Nat) (news : List Value) (hi : i < j0) (hj0 : j0 ≤ n) (hj1 : j0 = i + 1) (hc : n ≤ c) (hcm : n ≤ 9223372036854775807) (hn : news.length = (n - j0) * 9)
  (hsrc : ∀ (j : Nat) (u : Value), news[j]? = some u → w.cell? ⟨a, off + j0 * 9 + j, none⟩ = some u) (h1 : ∀ u ∈ news, u.oneCell' = true)
  (hth : ∀ j, j < c * 9 → (w.cell? ⟨a, off + j, none⟩).isSome = true ∧ w.frozen? ⟨a, off + j, none⟩ = false) :
  Calls Try.prog 60 #[.slice (some ⟨a, off, none⟩) n c, .int .i64 i, .int .i64 j0] w fun e w' => e = .returned (.slice (some ⟨a, off, none⟩) (i + (n - j0)) c) ∧ w' = (w.drew.setCells a (off + i * 9) news).setCells a (off + (i + (n - j0)) * 9) zPkt := by
 obtain ⟨iP, hiP, hz1⟩ : ∃ i, Try.prog.info? 33 = some i ∧ i.size = 9 := by
  have h := infoPkt
  cases hq : Try.prog.info? 33 with
  | none => rw [hq] at h; cases h
  | some i => rw [hq] at h; simp at h; exact ⟨i, rfl, h.1⟩
 obtain ⟨A, hA, hsrcA⟩ : ∃ A : Addr, (if c = j0 then some (⟨a, off, none⟩ : Addr) else some ⟨a, off + j0 * 9, none⟩) = some A ∧ Hid (∀ t u, news[t]? = some u → w.drew.cell? (A.add t) = some u) := by
  by_cases h : c = j0
  ·refine ⟨⟨a, off, none⟩, by simp [h], fun t u hu => ?_⟩
   have h0 : news.length = 0 := by rw [hn, show n - j0 = 0 by omega]
   rw [List.length_eq_zero_iff.1 h0] at hu
   simp at hu
  ·refine ⟨⟨a, off + j0 * 9, none⟩, by simp [h], fun t u hu => ?_⟩
   rw [Addr.add_lit]
   exact hsrc t u hu
 have s1 : Hid (news.length = (n - j0) * 9) := hn
 have s2 : Hid (∀ u ∈ news, u.oneCell' = true) := h1
 have s3 : Hid (∀ t, t < news.length → (w.drew.cell? ⟨a, off + i * 9 + t, none⟩).isSome = true ∧ w.drew.frozen? ⟨a, off + i * 9 + t, none⟩ = false) := by
  intro t ht
  rw [hn] at ht
  rw [Nat.add_assoc]
  exact hth (i * 9 + t) (by omega)
 obtain ⟨W1, hW1⟩ : ∃ W1, W1 = w.drew.setCells a (off + i * 9) news := ⟨_, rfl⟩
 have hcl : ∀ ty, (Builtin.clear_ #[28] ty #[.slice (some ⟨a, off + (i + (n - j0)) * 9, none⟩) (n - (i + (n - j0))) (c - (i + (n - j0)))]).run Try.prog W1 = .ok (.tuple #[]) (W1.setCells a (off + (i + (n - j0)) * 9) zPkt) := fun ty => by
  have key : ∀ j, j < 9 → (W1.cell? ⟨a, off + (i + (n - j0)) * 9 + j, none⟩).isSome = true ∧ W1.frozen? ⟨a, off + (i + (n - j0)) * 9 + j, none⟩ = false := fun j hj => by
   have := hth ((i + (n - j0)) * 9 + j) (by omega)
   rw [← Nat.add_assoc] at this
   rw [hW1]
   exact ⟨World.isSome_setCells a news (off + i * 9) w.drew _ this.1, (World.frozen?_setCells a news (off + i * 9) w.drew _).trans this.2⟩
  exact clear_pkt W1 ty a _ _ (fun j hj => (key j hj).1) (fun j hj => (key j hj).2) _ (by omega)
 have hW : Hid (W1 = w.drew.setCells a (off + i * 9) news) := hW1
 have hic : i ≤ c := by omega
 have hjc : j0 ≤ c := by omega
 clear hW1 hsrc h1 hth hn hj1
 go_enter Try.func60, Try.ntmps60
 go_wp2_with fail
 go_region_law (refine step_append_room rfl (.tmp 22) (.tmp 25) 28 rfl 33 iP 9 Try.underlying28 hiP hz1 a off i c (by simp [Act.eval, Act.put]) A (n - j0) (c - j0) news (by simp [Act.eval, Act.put]) s1.out hsrcA.out s2.out (by omega) s3.out ?_; rw [← hW.out])
 go_wp2
 go_ret
 exact ⟨rfl, by rw [← hW.out]⟩
section
variable {P : Program} (hp : P = Try.prog)
include hp
theorem delete_ (L : List (List G)) (i : Nat) (zi zj : Z) (hi : i < L.length) (hzi : zi.val = (i : Int)) (hzj : zj.val = (i : Int) + 1) (hL : L.length ≤ 140737488355328) :
  LValid P 60 [.c (.row 0 9 none), .c (.g (.int .i64 zi)), .c (.g (.int .i64 zj))] [.sym 9 L] (fun v m1 => v = .one (.c (.row 1 9 none)) ∧ ∃ L', L' = L.eraseIdx i ∧ m1 = [.dead, .sym 9 L']) := by
 subst hp
 intro E w vs hs hsz hr
 have hne : L ≠ [] := fun e => by rw [e] at hi; simp at hi
 obtain ⟨v0, h0, r0⟩ := hr 0 _ rfl
 obtain ⟨v1, h1, r1⟩ := hr 1 _ rfl
 obtain ⟨v2, h2, r2⟩ := hr 2 _ rfl
 have e1 : v1 = .int .i64 i := by
  rcases r1 with r1 | r1
  ·cases r1
  ·generalize hv : v1 = v at r1
   cases r1
   rw [hzi]
 have e2 : v2 = .int .i64 ((i : Int) + 1) := by
  rcases r2 with r2 | r2
  ·cases r2
  ·generalize hv : v2 = v at r2
   cases r2
   rw [hzj]
 rcases r0 with r0 | ⟨-, -, r0⟩
 ·cases r0
 obtain ⟨-, -, r0⟩ := r0 _ rfl trivial
 have hrl : (Blk.sym 9 L).rows.length = L.length := by simp [Blk.rows]
 rcases hs.rep 0 _ rfl trivial with ⟨q, q0⟩ | ⟨a_, base, q, g1, g2, g3⟩
 ·exact absurd (by simpa [Blk.rows] using q0) hne
 rcases r0 with ⟨r0, _⟩ | ⟨a', base', c, p1, p2, p3, -, p5⟩
 ·rw [q] at r0; cases r0
 rw [q] at p1
 cases p1
 rw [hrl] at p2 p3
 have hvs : vs = #[.slice (some ⟨a_, base, none⟩) L.length c, .int .i64 i, .int .i64 ((i : Int) + 1)] := by
  apply Array.ext_getElem?
  intro j
  match j with
  | 0 => rw [h0, p2]; rfl
  | 1 => rw [h1, e1]; rfl
  | 2 => rw [h2, e2]; rfl
  | j + 3 => simp at hsz; simp [hsz]
 have hw9 : ∀ (i : Nat) (r : List G), L[i]? = some r → r.length = 9 := fun i r hi => by
  have := (g3 i (r.map C.g) (by simp [Blk.rows, hi])).1
  simpa [Blk.es] using this
 obtain ⟨us, u1, u2, u3, u4⟩ := flat_cells (w := w) (E := E) (a_ := a_) (off := base) (l := L) hw9 (show 0 < 9 by omega) (fun i r j x hi hj => by
  obtain ⟨u, k1, k2⟩ := (g3 i (r.map C.g) (by simp [Blk.rows, hi])).2 j (.g x) (by simp [hj])
  exact ⟨u, k1, k2⟩)
 obtain ⟨news, hnews⟩ : ∃ news, news = us.drop ((i + 1) * 9) := ⟨_, rfl⟩
 have hnl : news.length = (L.length - (i + 1)) * 9 := by rw [hnews, List.length_drop, u1]; omega
 rw [hvs]
 refine (del_run w a_ base c L.length i (i + 1) news (by omega) hi rfl p3 (by omega) hnl (fun j u hj => ?_) (fun u hu => u3 u (by rw [hnews] at hu; exact List.mem_of_mem_drop hu)) (fun j hj => p5 j hj)).mono ?_
 ·rw [hnews, List.getElem?_drop] at hj
  have := u2 _ u hj
  unfold at_ at this
  rw [← Nat.add_assoc] at this
  exact this
 rintro e w' ⟨rfl, hw'⟩
 obtain ⟨zs, hzs⟩ : ∃ zs, zs = zPkt := ⟨_, rfl⟩
 rw [← hzs] at hw'
 obtain ⟨N1, hN1⟩ : ∃ N1, N1 = i + (L.length - (i + 1)) := ⟨_, rfl⟩
 rw [← hN1] at hw' ⊢
 obtain ⟨W1, hW1⟩ : ∃ W1, W1 = w.drew.setCells a_ (base + i * 9) news := ⟨_, rfl⟩
 rw [← hW1] at hw'
 have hin : i < L.length := hi
 obtain ⟨k1, k2, k3, k4, k5⟩ := setCells_keep w.drew a_ news (base + i * 9) w.drew
 rw [← hW1] at k1 k2 k3 k4 k5
 obtain ⟨l1, l2, l3, l4, l5⟩ := setCells_keep W1 a_ zs (base + N1 * 9) W1
 rw [← hw'] at l1 l2 l3 l4 l5
 have hst0 : Stays w w.drew := ⟨fun x hx => ⟨hx, rfl⟩, fun a es c h => ⟨es, c, h, fun i e h => ⟨e, h, rfl, rfl⟩⟩⟩
 have hst1 : Stays w.drew W1 := by rw [hW1]; exact stays_setCells _ _ _ _
 have hst2 : Stays W1 w' := by rw [hw']; exact stays_setCells _ _ _ _
 have hst : Stays w w' := (hst0.trans hst1).trans hst2
 have hdis := hs.dis 0 _ a_ base rfl trivial q
 have hbl : ∀ k, k ≠ a_ → w'.heap[k]? = w.heap[k]? := fun k hk => (l5 k hk).trans (k5 k hk)
 have hfr : ∀ k, E.F k → w'.heap[k]? = w.heap[k]? := fun k hk => hbl k (fun e => by subst e; exact hdis.1 hk)
 have hll : (L.eraseIdx i).length = N1 := by rw [List.length_eraseIdx]; simp [hi]; omega
 have hth' : w'.there a_ base (c * 9) := there_stays hst p5
 have hsome : ∀ j, j < news.length → (w.drew.cell? ⟨a_, base + i * 9 + j, none⟩).isSome = true := fun j hj => by
  have := (p5 (i * 9 + j) (by have h9 : (Blk.sym 9 L).es = 9 := rfl; omega)).1
  rw [← Nat.add_assoc] at this
  exact this
 have hg := move_grow (Wt := fun _ => True) (w' := w') (off := base) hs (b := 0) rfl trivial q trivial (l1.trans k1) (l2.trans k2) (l3.trans k3) (l4.trans k4) hbl hst (blk' := .sym 9 (L.eraseIdx i)) (fun j hj => hth' j (by
  have : j < N1 * 9 := by simpa [Blk.rows, Blk.es, hll] using hj
  omega)) (fun r row hr => by
  simp only [Blk.rows, List.getElem?_map] at hr
  obtain ⟨gr, hgr, rfl⟩ := Option.map_eq_some_iff.1 hr
  have hrl2 : r < N1 := by rw [← hll]; exact (List.getElem?_eq_some_iff.1 hgr).1
  rw [List.getElem?_eraseIdx] at hgr
  have fin : ∀ (j : Nat) (x : C) (s : Nat), (gr.map C.g)[j]? = some x → L[s]? = some gr → (∀ u, us[s * 9 + j]? = some u → w'.cell? (at_ a_ (base + (r * 9 + j))) = some u) → ∃ u, w'.cell? (at_ a_ (base + (r * 9 + j))) = some u ∧ ((∃ g, x = .g g ∧ GRep E.F w' g u) ∨ CRep E [.sym 9 L] w x u) := fun j x s hj hs h => by
   rw [List.getElem?_map] at hj
   obtain ⟨g, hg, rfl⟩ := Option.map_eq_some_iff.1 hj
   obtain ⟨u, q1, q2⟩ := u4 s gr j g hs hg
   exact ⟨u, h u q1, .inl ⟨g, rfl, q2.step (fun _ h => h) hfr⟩⟩
  have out2 : ∀ (j : Nat), j < 9 → w'.cell? (at_ a_ (base + (r * 9 + j))) = W1.cell? (at_ a_ (base + (r * 9 + j))) := fun j hj => by
   rw [hw', World.cell?_setCells_out a_ _ _ W1 _ (fun _ _ => .inl (by simp only [at_]; omega))]
  split at hgr
  ·rename_i hri
   have h9 := hw9 r gr hgr
   refine ⟨by simpa [Blk.es] using h9, fun j x hj => fin j x r hj hgr (fun u hu => ?_)⟩
   have hj9 : j < 9 := by
    have : j < (gr.map C.g).length := (List.getElem?_eq_some_iff.1 hj).1
    rw [List.length_map] at this
    omega
   rw [out2 j hj9, hW1, World.cell?_setCells_out a_ _ _ w.drew _ (fun _ _ => .inl (by simp only [at_]; omega))]
   exact u2 _ u hu
  ·rename_i hri
   have h9 := hw9 (r + 1) gr hgr
   refine ⟨by simpa [Blk.es] using h9, fun j x hj => fin j x (r + 1) hj hgr (fun u hu => ?_)⟩
   have hj9 : j < 9 := by
    have : j < (gr.map C.g).length := (List.getElem?_eq_some_iff.1 hj).1
    rw [List.length_map] at this
    omega
   rw [out2 j hj9, hW1]
   have hlt : (r - i) * 9 + j < news.length := by rw [hnl]; omega
   have := World.cell?_setCells_in a_ news (base + i * 9) w.drew hsome ((r - i) * 9 + j) hlt
   have hv : news[(r - i) * 9 + j] = u := by
    have h1 : news[(r - i) * 9 + j]? = some u := by
     rw [hnews, List.getElem?_drop, show (i + 1) * 9 + ((r - i) * 9 + j) = (r + 1) * 9 + j by omega]
     exact hu
    rw [List.getElem?_eq_getElem hlt] at h1
    exact Option.some.inj h1
   rw [hv] at this
   rw [← this]
   unfold at_
   congr 2
   omega)
 refine ⟨_, .one (.c (.row 1 9 none)), [.dead, .sym 9 (L.eraseIdx i)], _, rfl, ⟨rfl, _, rfl, rfl⟩, .inr ⟨by simp, rfl, fun blk' hb' hl' => ?_⟩, rfl, fun id blk hb => ?_, hg.2, hg.1⟩
 ·simp at hb'
  subst hb'
  refine ⟨rfl, fun c' hc' => (by cases hc'), .inr ⟨a_, base, c, rfl, ?_, ?_, fun c' hc' => (by cases hc'), hth'⟩⟩
  ·simp only [Blk.rows, List.length_map, hll]
   rfl
  ·simp only [Blk.rows, List.length_map, hll]
   omega
 ·match id, hb with
  | 0, hb => simp at hb; subst hb; rfl
  | 1, hb => simp at hb; subst hb; rfl
  | n + 2, hb => simp at hb
end
end Go.Proofs.Ytofdnnjkfpomcaa.E

/- Contracts: packets in pools and queues. -/
namespace Go.Proofs.Ytofdnnjkfpomcaa.E
open Go
set_option linter.unusedVariables false
set_option maxRecDepth 100000

theorem eraseIdx_map {α β : Type} (f : α → β) : ∀ (l : List α) (i : Nat), (l.eraseIdx i).map f = (l.map f).eraseIdx i
 | [], _ => by simp
 | a :: l, 0 => by simp
 | a :: l, i + 1 => by simp [eraseIdx_map f l i]
theorem isP.del {L : List (List G)} {ps : List PK} (h : isP L ps) (i : Nat) : isP (L.eraseIdx i) (ps.eraseIdx i) := by unfold isP at h ⊢; rw [h]; exact (eraseIdx_map _ ps i).symm
def qu (rm : Int) (c : C) : Blk := .lit 2 [[c, .g (.int .i64 (.sym rm))]]
section
variable {P : Program} (hp : P = Try.prog)
include hp
theorem cloneI (l : List (List G)) (hl : l.length * 8 ≤ 140737488355328) : LValid P 66 [.c (.bor 1 l)] [] (fun v m1 => v = .one (.c (.row 0 1 none)) ∧ m1 = [.sym 1 l]) := by
 refine LValid.own (R := fun v m1 => (v = .one (.c (.row 0 1 none)) ∧ m1 = [.sym 1 l]) ∨ (v = .one (.c (.g .nil)) ∧ m1 = [] ∧ l = [])) 1 ?_ (fun v m1 h => h.imp id (fun ⟨h1, h2, h3⟩ => ⟨h1, by rw [h2, h3]; exact ⟨rfl, rfl⟩⟩))
 obtain ⟨I, hI⟩ := ref
 refine fn_sim hI (mo hp) (cc hp c66) fun Post hP => ?_
 cbv
 refine .isnil (fun h => ?_) ?_
 ·cbv
  exact hP _ _ [] [] _ _ .nil rfl rfl rfl rfl rfl (.inr ⟨rfl, rfl, h⟩)
 ·cbv
  refine .most (by simpa [hI, ints] using hl) (by simp [hI, ints]; omega) ?_
  cbv
  exact hP _ _ [1] [] _ _ (by decide) rfl rfl rfl rfl rfl (.inl ⟨rfl, by rw [hI]; rfl⟩)
theorem p_own (z : PZ) (D : List (List G)) (d : List Int) (hD : isL .i64 D d) (hl : D.length * 8 ≤ 140737488355328) : LValid P 54 [z.arg D] [] (fun v m1 => v = .one ((z.pk d).told (.row 0 1 none)) ∧ m1 = [.sym 1 D]) := by
 refine LValid.syvm (R := fun v m1 => v = .one (.agg [.g (.int .i64 z.k), .g (.int .i64 z.f), .g (.int .i64 z.t), .g (.int .i64 z.i), .g (.int .i64 z.l), .g (.int .i64 z.p), .g (.int .i64 z.s), .g (.bool z.b), .row 0 1 none]) ∧ m1 = [.sym 1 D]) ?_ (fun v m1 h => by obtain ⟨rfl, rfl⟩ := h; exact ⟨rfl, rfl⟩)
 obtain ⟨zk, zf, zt, zi, zl, zp, zs, zb⟩ := z
 obtain ⟨I, hI⟩ := ref
 refine fn_sim hI (mo hp) (cc hp c54) fun Post hP => ?_
 cbv
 refine .go [] [] [] (cloneI hp D hl) rfl rfl rfl rfl rfl rfl ?_
 rintro v m1 ⟨rfl, rfl⟩
 cbv
 exact hP _ _ [2] [] _ _ (by decide) rfl rfl rfl rfl rfl ⟨rfl, rfl⟩
/-- The same, its data frozen. -/
theorem p_ownF (z : PZ) (D : List (List G)) (d : List Int) (hD : isL .i64 D d) (hl : D.length * 8 ≤ 140737488355328) : LValid P 54 [z.arg D] [] (fun v m1 => v = .one ((z.pk d).told (.g (.rows 1 D))) ∧ m1 = []) := by
 refine LValid.syvm (R := fun v m1 => v = .one (.agg [.g (.int .i64 z.k), .g (.int .i64 z.f), .g (.int .i64 z.t), .g (.int .i64 z.i), .g (.int .i64 z.l), .g (.int .i64 z.p), .g (.int .i64 z.s), .g (.bool z.b), .g (.rows 1 D)]) ∧ m1 = []) ?_ (fun v m1 h => by obtain ⟨rfl, rfl⟩ := h; exact ⟨rfl, rfl⟩)
 obtain ⟨zk, zf, zt, zi, zl, zp, zs, zb⟩ := z
 obtain ⟨I, hI⟩ := ref
 refine fn_sim hI (mo hp) (cc hp c54) fun Post hP => ?_
 cbv
 refine .go [] [] [] (cloneI hp D hl) rfl rfl rfl rfl rfl rfl ?_
 rintro v m1 ⟨rfl, rfl⟩
 cbv
 exact hP _ _ [] [2] _ _ .nil rfl rfl rfl rfl rfl ⟨rfl, rfl⟩
theorem p_new (room : Z) : LValid P 28 [.c (.g (.int .i64 room))] [] (fun v m1 => ∃ rm, rm = max 0 room.val ∧ v = .one (.c (.ptr 0 (.lit 0) 2 0)) ∧ m1 = [qu rm (.row 1 9 none), .sym 9 []]) := by
 refine LValid.sy ?_
 show LValid P 28 [.c (.g (.int .i64 (.sym room.val)))] [] _
 generalize room.val = z
 refine LValid.ownField (R := fun v m1 => ∃ rm, rm = max 0 z ∧ v = .one (.c (.ptr 0 (.lit 0) 2 0)) ∧ m1 = [qu rm (.g .nil)]) 9 0 0 0 ?_ (fun v m1 h => by obtain ⟨rm, h1, rfl, rfl⟩ := h; exact ⟨2, _, _, rfl, rfl, rfl, rm, h1, rfl, rfl⟩)
 obtain ⟨I, hI⟩ := ref
 refine fn_sim hI (mo hp) (cc hp c28) fun Post hP => ?_
 cbv
 have hX : I.mx 0 z = max 0 z := by
  rw [hI]
  show (if z > 0 then z else 0) = _
  split <;> omega
 exact hP _ _ [0] [] _ _ (by decide) rfl rfl rfl rfl rfl ⟨_, hX, rfl, rfl⟩
theorem p_room (rm : Int) (L : List (List G)) (h0 : 0 ≤ rm) (h1 : rm ≤ 1000000) (hl : L.length ≤ 1000000) : LValid P 43 [.c (.ptr 0 (.lit 0) 2 0)] [qu rm (.row 1 9 none), .sym 9 L] (fun v m1 => ∃ t, t = rm - L.length ∧ v = i64 t ∧ m1 = [qu rm (.row 1 9 none), .sym 9 L]) := by
 obtain ⟨I, hI⟩ := ref
 refine fn_sim hI (mo hp) (cc hp c43) fun Post hP => ?_
 cbv
 refine .drawn [] ?_
 cbv
 have hX : I.bin .sub .i64 rm (I.ofNat (I.len L)) = rm - L.length := by
  rw [hI]
  simp only [ints, rBin]
  rw [wrap_in] <;> omega
 exact hP _ _ [0, 1] [] _ _ (by decide) rfl rfl rfl rfl rfl ⟨_, hX, rfl, rfl⟩
theorem p_len (rm : Int) (L : List (List G)) : LValid P 36 [.c (.ptr 0 (.lit 0) 2 0)] [qu rm (.row 1 9 none), .sym 9 L] (fun v m1 => ∃ t, t = ((L.length : Nat) : Int) ∧ v = i64 t ∧ m1 = [qu rm (.row 1 9 none), .sym 9 L]) := by
 obtain ⟨I, hI⟩ := ref
 refine fn_sim hI (mo hp) (cc hp c36) fun Post hP => ?_
 cbv
 have hX : I.ofNat (I.len L) = ((L.length : Nat) : Int) := by rw [hI]; rfl
 exact hP _ _ [0, 1] [] _ _ (by decide) rfl rfl rfl rfl rfl ⟨_, hX, rfl, rfl⟩
theorem p_put (z : PZ) (D : List (List G)) (d : List Int) (hD : isL .i64 D d) (hd : D.length * 8 ≤ 140737488355328) (rm : Int) (L : List (List G)) (h0 : 0 ≤ rm) (h1 : rm ≤ 1000000) (hl : L.length ≤ 1000000) : LValid P 34 [.c (.ptr 0 (.lit 0) 2 0), z.arg D] [qu rm (.row 1 9 none), .sym 9 L]
  (fun v m1 => ∃ t, v = i64 t ∧ ((t = 5 ∧ (L.length : Int) = rm ∧ m1 = [qu rm (.row 1 9 none), .sym 9 L]) ∨ (t = 0 ∧ (L.length : Int) ≠ rm ∧ ∃ L', L' = L ++ [(z.pk d).row D] ∧ m1 = [qu rm (.row 2 9 none), .dead, .sym 9 L']))) := by
 refine LValid.sy ?_
 obtain ⟨q, hq⟩ : ∃ q, q = z.pk d := ⟨_, rfl⟩
 show LValid P 34 [.c (.ptr 0 (.lit 0) 2 0), .agg [.g (.int .i64 (.sym z.k.val)), .g (.int .i64 (.sym z.f.val)), .g (.int .i64 (.sym z.t.val)), .g (.int .i64 (.sym z.i.val)), .g (.int .i64 (.sym z.l.val)), .g (.int .i64 (.sym z.p.val)), .g (.int .i64 (.sym z.s.val)), .g (.bool (.sym z.b.val)), .bor 1 D]] _ _
 rw [show z.pk d = ⟨z.k.val, z.f.val, z.t.val, z.i.val, z.l.val, z.p.val, z.s.val, z.b.val, d⟩ from rfl]
 generalize z.k.val = k, z.f.val = f, z.t.val = t, z.i.val = i, z.l.val = l, z.p.val = p, z.s.val = s, z.b.val = b
 clear hq q
 refine LValid.syv (R := fun v m1 => ∃ t' : Z, v = .one (.c (.g (.int .i64 t'))) ∧ ((t'.val = 5 ∧ (L.length : Int) = rm ∧ m1 = [qu rm (.row 1 9 none), .sym 9 L]) ∨ (t'.val = 0 ∧ (L.length : Int) ≠ rm ∧ ∃ L', L' = L ++ [PK.row ⟨k, f, t, i, l, p, s, b, d⟩ D] ∧ m1 = [qu rm (.row 2 9 none), .dead, .sym 9 L']))) ?_ (fun v m1 h => by obtain ⟨t', rfl, h⟩ := h; exact ⟨t'.val, rfl, h⟩)
 obtain ⟨I, hI⟩ := ref
 refine fn_sim hI (mo hp) (cc hp c34) fun Post hP => ?_
 have hap : I.app L [PK.row ⟨k, f, t, i, l, p, s, b, d⟩ D] = L ++ [PK.row ⟨k, f, t, i, l, p, s, b, d⟩ D] := by rw [hI]; rfl
 have hm1 : I.len (I.app L [PK.row ⟨k, f, t, i, l, p, s, b, d⟩ D]) * 88 ≤ 140737488355328 := by rw [hap, hI]; simp [ints]; omega
 have hm2 : I.len (I.app L [PK.row ⟨k, f, t, i, l, p, s, b, d⟩ D]) ≤ 140737488355328 := by rw [hap, hI]; simp [ints]; omega
 cbv
 refine .go [0, 1] [] [] (p_room hp rm L h0 h1 hl) rfl rfl rfl rfl rfl rfl ?_
 rintro v m1 ⟨t0, ht0, rfl, rfl⟩
 cbv
 refine .br (fun h => ?_) (fun h => ?_)
 ·have h : t0 = 0 := by simpa [hI, ints, rCmp] using h
  cbv
  exact hP _ _ [0, 1] [] _ _ (by decide) rfl rfl rfl rfl rfl ⟨_, rfl, .inl ⟨rfl, by omega, rfl⟩⟩
 ·have h : ¬ t0 = 0 := by simpa [hI, ints, rCmp] using h
  cbv
  refine .drawn [0, 1] ?_
  cbv
  repeat' (first
   | (refine .both ?_ ?_ <;> cbv)
   | (refine .go [] [] [] (p_ownF hp ⟨.sym k, .sym f, .sym t, .sym i, .sym l, .sym p, .sym s, .sym b⟩ D d hD hd) rfl rfl rfl rfl rfl rfl ?_; rintro v m1 ⟨rfl, rfl⟩; cbv)
   | (refine .most hm1 hm2 ?_; cbv))
  all_goals exact hP _ _ [0, 1, 4] [] _ _ (by decide) rfl rfl rfl rfl rfl ⟨_, rfl, .inr ⟨rfl, by omega, _, hap, rfl⟩⟩
/-- The packet at a place, or none. -/
theorem p_get (z : Z) (rm : Int) (L : List (List G)) (ps : List PK) (hL : isP L ps) (hd : ∀ q ∈ ps, q.d.length * 8 ≤ 140737488355328) (hl : L.length ≤ 1000000) : LValid P 38 [.c (.ptr 0 (.lit 0) 2 0), .c (.g (.int .i64 z))] [qu rm (.row 1 9 none), .sym 9 L]
  (fun v m1 => (((z.val < 0 ∨ ∃ i, isN z.val i ∧ ps.length ≤ i) ∧ v = .tup [PK.nought.told (.g .nil), gb false] ∧ m1 = [qu rm (.row 1 9 none), .sym 9 L])) ∨ (∃ i q D, isN z.val i ∧ ps[i]? = some q ∧ isL .i64 D q.d ∧ v = .tup [q.told (.row 2 1 none), gb true] ∧ m1 = [qu rm (.row 1 9 none), .sym 9 L, .sym 1 D])) := by
 refine LValid.sy ?_
 show LValid P 38 [.c (.ptr 0 (.lit 0) 2 0), .c (.g (.int .i64 (.sym z.val)))] _ _
 generalize z.val = z
 refine LValid.syv (R := fun v m1 => ((z < 0 ∨ ∃ i, isN z i ∧ ps.length ≤ i) ∧ v = .tup [.agg [.g (.int .i64 (.lit 0)), .g (.int .i64 (.lit 0)), .g (.int .i64 (.lit 0)), .g (.int .i64 (.lit 0)), .g (.int .i64 (.lit 0)), .g (.int .i64 (.lit 0)), .g (.int .i64 (.lit 0)), .g (.bool (.lit false)), .g .nil], .c (.g (.bool (.lit false)))] ∧ m1 = [qu rm (.row 1 9 none), .sym 9 L]) ∨ (∃ i q D, isN z i ∧ ps[i]? = some q ∧ isL .i64 D q.d ∧ v = .tup [q.told (.row 2 1 none), .c (.g (.bool (.lit true)))] ∧ m1 = [qu rm (.row 1 9 none), .sym 9 L, .sym 1 D])) ?_ (fun v m1 h => h.imp (fun ⟨h1, h2, h3⟩ => ⟨h1, by rw [h2]; rfl, h3⟩) (fun ⟨i, q, D, h0, h1, h2, h3, h4⟩ => ⟨i, q, D, h0, h1, h2, by rw [h3]; rfl, h4⟩))
 obtain ⟨I, hI⟩ := ref
 have hle : I.len L = ps.length := by rw [hI]; exact hL.len
 refine fn_sim hI (mo hp) (cc hp c38) fun Post hP => ?_
 cbv
 refine .br (fun h => ?_) (fun h => ?_)
 ·have h1 : z < 0 := by simpa [hI, ints, rCmp] using h
  cbv
  exact hP _ _ [0, 1] [] _ _ (by decide) rfl rfl rfl rfl rfl (.inl ⟨.inl h1, rfl, rfl⟩)
 ·have h1 : ¬ z < 0 := by simpa [hI, ints, rCmp] using h
  obtain ⟨i, hi⟩ : ∃ i : Nat, isN z i := ⟨z.toNat, by unfold isN; omega⟩
  cbv
  refine .br (fun h2 => ?_) (fun h2 => ?_)
  ·have h2 : ps.length ≤ i := by
    have h' : rCmp .geq z ((I.len L : Nat) : Int) = true := by rw [hI] at h2 ⊢; exact h2
    rw [hle] at h'
    have : z ≥ (ps.length : Int) := by simpa [rCmp] using h'
    unfold isN at hi
    omega
   cbv
   exact hP _ _ [0, 1] [] _ _ (by decide) rfl rfl rfl rfl rfl (.inl ⟨.inr ⟨i, hi, h2⟩, rfl, rfl⟩)
  ·have h2 : i < ps.length := by
    have h' : rCmp .geq z ((I.len L : Nat) : Int) = false := by rw [hI] at h2 ⊢; exact h2
    rw [hle] at h'
    have : ¬ z ≥ (ps.length : Int) := by simpa [rCmp] using h'
    unfold isN at hi
    omega
   obtain ⟨q, hq⟩ : ∃ q, ps[i]? = some q := ⟨_, List.getElem?_eq_getElem h2⟩
   obtain ⟨D, hD, hr⟩ := hL.get hq
   have hdd : D.length * 8 ≤ 140737488355328 := by rw [hD.len]; exact hd q (List.mem_of_getElem? hq)
   obtain ⟨k, f, t, i2, l, p, s, b, d⟩ := q
   cbv
   refine .idx i hi (show i < I.len L from by rw [hle]; exact h2) (.nth _ hr ?_)
   cbv
   refine .go [] [] [.bor 1] (p_own hp ⟨.sym k, .sym f, .sym t, .sym i2, .sym l, .sym p, .sym s, .sym b⟩ D d hD hdd) rfl rfl rfl rfl rfl rfl ?_
   rintro v m1 ⟨rfl, rfl⟩
   cbv
   exact hP _ _ [0, 1, 3] [] _ _ (by decide) rfl rfl rfl rfl rfl (.inr ⟨i, ⟨k, f, t, i2, l, p, s, b, d⟩, D, hi, hq, hD, rfl, rfl⟩)
theorem p_remove (z : Z) (rm : Int) (L : List (List G)) (ps : List PK) (hL : isP L ps) (hd : ∀ q ∈ ps, q.d.length * 8 ≤ 140737488355328) (hl : L.length ≤ 1000000) : LValid P 41 [.c (.ptr 0 (.lit 0) 2 0), .c (.g (.int .i64 z))] [qu rm (.row 1 9 none), .sym 9 L]
  (fun v m1 => (((z.val < 0 ∨ ∃ i, isN z.val i ∧ ps.length ≤ i) ∧ v = .tup [PK.nought.told (.g .nil), gb false] ∧ m1 = [qu rm (.row 1 9 none), .sym 9 L])) ∨ (∃ i q D L', isN z.val i ∧ ps[i]? = some q ∧ isL .i64 D q.d ∧ isP L' (ps.eraseIdx i) ∧ v = .tup [q.told (.row 3 1 none), gb true] ∧ m1 = [qu rm (.row 2 9 none), .dead, .sym 9 L', .sym 1 D])) := by
 refine LValid.sy ?_
 show LValid P 41 [.c (.ptr 0 (.lit 0) 2 0), .c (.g (.int .i64 (.sym z.val)))] _ _
 generalize z.val = z
 obtain ⟨I, hI⟩ := ref
 have hle : I.len L = ps.length := by rw [hI]; exact hL.len
 refine fn_sim hI (mo hp) (cc hp c41) fun Post hP => ?_
 cbv
 refine .go [0, 1] [] [] (p_get hp (.sym z) rm L ps hL hd hl) rfl rfl rfl rfl rfl rfl ?_
 rintro v m1 (⟨h1, rfl, rfl⟩ | ⟨i, q, D, hi, h1, hD, rfl, rfl⟩)
 ·cbv
  refine br_f rfl ?_
  cbv
  exact hP _ _ [0, 1] [] _ _ (by decide) rfl rfl rfl rfl rfl (.inl ⟨h1, rfl, rfl⟩)
 ·obtain ⟨k, f, t, i2, l, p, s, b, d⟩ := q
  have hi : isN z i := hi
  have hpi : i < L.length := by rw [hL.len]; exact (List.getElem?_eq_some_iff.1 h1).1
  have hz1 : I.bin .add .i64 z 1 = (i : Int) + 1 := by
   unfold isN at hi
   rw [hI, hi]
   simp only [ints, rBin]
   rw [wrap_in] <;> omega
  have hdel := delete_ hp L i (.sym z) (.sym (I.bin .add .i64 z 1)) hpi hi hz1 (by omega)
  cbv
  refine br_t rfl ?_
  cbv
  refine .go [1] [] [] hdel rfl rfl rfl rfl rfl rfl ?_
  rintro v m1 ⟨rfl, L', hL', rfl⟩
  cbv
  exact hP _ _ [0, 1, 5, 3] [] _ _ (by decide) rfl rfl rfl rfl rfl (.inr ⟨i, ⟨k, f, t, i2, l, p, s, b, d⟩, D, L', hi, h1, hD, by rw [hL']; exact hL.del i, rfl, rfl⟩)
theorem k_own (z : PZ) (D : List (List G)) (d : List Int) (hD : isL .i64 D d) (hl : D.length * 8 ≤ 140737488355328) : LValid P 59 [z.arg D] [] (fun v m1 => v = .one ((z.pk d).told (.row 0 1 none)) ∧ m1 = [.sym 1 D]) := by
 refine LValid.syvm (R := fun v m1 => v = .one (.agg [.g (.int .i64 z.k), .g (.int .i64 z.f), .g (.int .i64 z.t), .g (.int .i64 z.i), .g (.int .i64 z.l), .g (.int .i64 z.p), .g (.int .i64 z.s), .g (.bool z.b), .row 0 1 none]) ∧ m1 = [.sym 1 D]) ?_ (fun v m1 h => by obtain ⟨rfl, rfl⟩ := h; exact ⟨rfl, rfl⟩)
 obtain ⟨zk, zf, zt, zi, zl, zp, zs, zb⟩ := z
 obtain ⟨I, hI⟩ := ref
 refine fn_sim hI (mo hp) (cc hp c59) fun Post hP => ?_
 cbv
 refine .go [] [] [] (cloneI hp D hl) rfl rfl rfl rfl rfl rfl ?_
 rintro v m1 ⟨rfl, rfl⟩
 cbv
 exact hP _ _ [2] [] _ _ (by decide) rfl rfl rfl rfl rfl ⟨rfl, rfl⟩
/-- The same, its data frozen. -/
theorem k_ownF (z : PZ) (D : List (List G)) (d : List Int) (hD : isL .i64 D d) (hl : D.length * 8 ≤ 140737488355328) : LValid P 59 [z.arg D] [] (fun v m1 => v = .one ((z.pk d).told (.g (.rows 1 D))) ∧ m1 = []) := by
 refine LValid.syvm (R := fun v m1 => v = .one (.agg [.g (.int .i64 z.k), .g (.int .i64 z.f), .g (.int .i64 z.t), .g (.int .i64 z.i), .g (.int .i64 z.l), .g (.int .i64 z.p), .g (.int .i64 z.s), .g (.bool z.b), .g (.rows 1 D)]) ∧ m1 = []) ?_ (fun v m1 h => by obtain ⟨rfl, rfl⟩ := h; exact ⟨rfl, rfl⟩)
 obtain ⟨zk, zf, zt, zi, zl, zp, zs, zb⟩ := z
 obtain ⟨I, hI⟩ := ref
 refine fn_sim hI (mo hp) (cc hp c59) fun Post hP => ?_
 cbv
 refine .go [] [] [] (cloneI hp D hl) rfl rfl rfl rfl rfl rfl ?_
 rintro v m1 ⟨rfl, rfl⟩
 cbv
 exact hP _ _ [] [2] _ _ .nil rfl rfl rfl rfl rfl ⟨rfl, rfl⟩
theorem k_new (room : Z) : LValid P 29 [.c (.g (.int .i64 room))] [] (fun v m1 => ∃ rm, rm = max 0 room.val ∧ v = .one (.c (.ptr 0 (.lit 0) 2 0)) ∧ m1 = [qu rm (.row 1 9 none), .sym 9 []]) := by
 refine LValid.sy ?_
 show LValid P 29 [.c (.g (.int .i64 (.sym room.val)))] [] _
 generalize room.val = z
 refine LValid.ownField (R := fun v m1 => ∃ rm, rm = max 0 z ∧ v = .one (.c (.ptr 0 (.lit 0) 2 0)) ∧ m1 = [qu rm (.g .nil)]) 9 0 0 0 ?_ (fun v m1 h => by obtain ⟨rm, h1, rfl, rfl⟩ := h; exact ⟨2, _, _, rfl, rfl, rfl, rm, h1, rfl, rfl⟩)
 obtain ⟨I, hI⟩ := ref
 refine fn_sim hI (mo hp) (cc hp c29) fun Post hP => ?_
 cbv
 have hX : I.mx 0 z = max 0 z := by
  rw [hI]
  show (if z > 0 then z else 0) = _
  split <;> omega
 exact hP _ _ [0] [] _ _ (by decide) rfl rfl rfl rfl rfl ⟨_, hX, rfl, rfl⟩
theorem k_room (rm : Int) (L : List (List G)) (h0 : 0 ≤ rm) (h1 : rm ≤ 1000000) (hl : L.length ≤ 1000000) : LValid P 58 [.c (.ptr 0 (.lit 0) 2 0)] [qu rm (.row 1 9 none), .sym 9 L] (fun v m1 => ∃ t, t = rm - L.length ∧ v = i64 t ∧ m1 = [qu rm (.row 1 9 none), .sym 9 L]) := by
 obtain ⟨I, hI⟩ := ref
 refine fn_sim hI (mo hp) (cc hp c58) fun Post hP => ?_
 cbv
 refine .drawn [] ?_
 cbv
 have hX : I.bin .sub .i64 rm (I.ofNat (I.len L)) = rm - L.length := by
  rw [hI]
  simp only [ints, rBin]
  rw [wrap_in] <;> omega
 exact hP _ _ [0, 1] [] _ _ (by decide) rfl rfl rfl rfl rfl ⟨_, hX, rfl, rfl⟩
theorem k_len (rm : Int) (L : List (List G)) : LValid P 45 [.c (.ptr 0 (.lit 0) 2 0)] [qu rm (.row 1 9 none), .sym 9 L] (fun v m1 => ∃ t, t = ((L.length : Nat) : Int) ∧ v = i64 t ∧ m1 = [qu rm (.row 1 9 none), .sym 9 L]) := by
 obtain ⟨I, hI⟩ := ref
 refine fn_sim hI (mo hp) (cc hp c45) fun Post hP => ?_
 cbv
 have hX : I.ofNat (I.len L) = ((L.length : Nat) : Int) := by rw [hI]; rfl
 exact hP _ _ [0, 1] [] _ _ (by decide) rfl rfl rfl rfl rfl ⟨_, hX, rfl, rfl⟩
theorem k_put (z : PZ) (D : List (List G)) (d : List Int) (hD : isL .i64 D d) (hd : D.length * 8 ≤ 140737488355328) (rm : Int) (L : List (List G)) (h0 : 0 ≤ rm) (h1 : rm ≤ 1000000) (hl : L.length ≤ 1000000) : LValid P 40 [.c (.ptr 0 (.lit 0) 2 0), z.arg D] [qu rm (.row 1 9 none), .sym 9 L]
  (fun v m1 => ∃ t, v = i64 t ∧ ((t = 5 ∧ (L.length : Int) = rm ∧ m1 = [qu rm (.row 1 9 none), .sym 9 L]) ∨ (t = 0 ∧ (L.length : Int) ≠ rm ∧ ∃ L', L' = L ++ [(z.pk d).row D] ∧ m1 = [qu rm (.row 2 9 none), .dead, .sym 9 L']))) := by
 refine LValid.sy ?_
 obtain ⟨q, hq⟩ : ∃ q, q = z.pk d := ⟨_, rfl⟩
 show LValid P 40 [.c (.ptr 0 (.lit 0) 2 0), .agg [.g (.int .i64 (.sym z.k.val)), .g (.int .i64 (.sym z.f.val)), .g (.int .i64 (.sym z.t.val)), .g (.int .i64 (.sym z.i.val)), .g (.int .i64 (.sym z.l.val)), .g (.int .i64 (.sym z.p.val)), .g (.int .i64 (.sym z.s.val)), .g (.bool (.sym z.b.val)), .bor 1 D]] _ _
 rw [show z.pk d = ⟨z.k.val, z.f.val, z.t.val, z.i.val, z.l.val, z.p.val, z.s.val, z.b.val, d⟩ from rfl]
 generalize z.k.val = k, z.f.val = f, z.t.val = t, z.i.val = i, z.l.val = l, z.p.val = p, z.s.val = s, z.b.val = b
 clear hq q
 refine LValid.syv (R := fun v m1 => ∃ t' : Z, v = .one (.c (.g (.int .i64 t'))) ∧ ((t'.val = 5 ∧ (L.length : Int) = rm ∧ m1 = [qu rm (.row 1 9 none), .sym 9 L]) ∨ (t'.val = 0 ∧ (L.length : Int) ≠ rm ∧ ∃ L', L' = L ++ [PK.row ⟨k, f, t, i, l, p, s, b, d⟩ D] ∧ m1 = [qu rm (.row 2 9 none), .dead, .sym 9 L']))) ?_ (fun v m1 h => by obtain ⟨t', rfl, h⟩ := h; exact ⟨t'.val, rfl, h⟩)
 obtain ⟨I, hI⟩ := ref
 refine fn_sim hI (mo hp) (cc hp c40) fun Post hP => ?_
 have hap : I.app L [PK.row ⟨k, f, t, i, l, p, s, b, d⟩ D] = L ++ [PK.row ⟨k, f, t, i, l, p, s, b, d⟩ D] := by rw [hI]; rfl
 have hm1 : I.len (I.app L [PK.row ⟨k, f, t, i, l, p, s, b, d⟩ D]) * 88 ≤ 140737488355328 := by rw [hap, hI]; simp [ints]; omega
 have hm2 : I.len (I.app L [PK.row ⟨k, f, t, i, l, p, s, b, d⟩ D]) ≤ 140737488355328 := by rw [hap, hI]; simp [ints]; omega
 cbv
 refine .go [0, 1] [] [] (k_room hp rm L h0 h1 hl) rfl rfl rfl rfl rfl rfl ?_
 rintro v m1 ⟨t0, ht0, rfl, rfl⟩
 cbv
 refine .br (fun h => ?_) (fun h => ?_)
 ·have h : t0 = 0 := by simpa [hI, ints, rCmp] using h
  cbv
  exact hP _ _ [0, 1] [] _ _ (by decide) rfl rfl rfl rfl rfl ⟨_, rfl, .inl ⟨rfl, by omega, rfl⟩⟩
 ·have h : ¬ t0 = 0 := by simpa [hI, ints, rCmp] using h
  cbv
  refine .drawn [0, 1] ?_
  cbv
  repeat' (first
   | (refine .both ?_ ?_ <;> cbv)
   | (refine .go [] [] [] (k_ownF hp ⟨.sym k, .sym f, .sym t, .sym i, .sym l, .sym p, .sym s, .sym b⟩ D d hD hd) rfl rfl rfl rfl rfl rfl ?_; rintro v m1 ⟨rfl, rfl⟩; cbv)
   | (refine .most hm1 hm2 ?_; cbv))
  all_goals exact hP _ _ [0, 1, 4] [] _ _ (by decide) rfl rfl rfl rfl rfl ⟨_, rfl, .inr ⟨rfl, by omega, _, hap, rfl⟩⟩
/-- The packet at place 0, or none. -/
theorem k_peek (rm : Int) (L : List (List G)) (ps : List PK) (hL : isP L ps) (hd : ∀ q ∈ ps, q.d.length * 8 ≤ 140737488355328) (hl : L.length ≤ 1000000) : LValid P 75 [.c (.ptr 0 (.lit 0) 2 0)] [qu rm (.row 1 9 none), .sym 9 L]
  (fun v m1 => (ps = [] ∧ v = .tup [PK.nought.told (.g .nil), gb false] ∧ m1 = [qu rm (.row 1 9 none), .sym 9 L]) ∨ (∃ q D, ps[0]? = some q ∧ isL .i64 D q.d ∧ v = .tup [q.told (.row 2 1 none), gb true] ∧ m1 = [qu rm (.row 1 9 none), .sym 9 L, .sym 1 D])) := by
 refine LValid.syv (R := fun v m1 => (ps = [] ∧ v = .tup [.agg [.g (.int .i64 (.lit 0)), .g (.int .i64 (.lit 0)), .g (.int .i64 (.lit 0)), .g (.int .i64 (.lit 0)), .g (.int .i64 (.lit 0)), .g (.int .i64 (.lit 0)), .g (.int .i64 (.lit 0)), .g (.bool (.lit false)), .g .nil], .c (.g (.bool (.lit false)))] ∧ m1 = [qu rm (.row 1 9 none), .sym 9 L]) ∨ (∃ q D, ps[0]? = some q ∧ isL .i64 D q.d ∧ v = .tup [q.told (.row 2 1 none), .c (.g (.bool (.lit true)))] ∧ m1 = [qu rm (.row 1 9 none), .sym 9 L, .sym 1 D])) ?_ (fun v m1 h => h.imp (fun ⟨h1, h2, h3⟩ => ⟨h1, by rw [h2]; rfl, h3⟩) (fun ⟨q, D, h1, h2, h3, h4⟩ => ⟨q, D, h1, h2, by rw [h3]; rfl, h4⟩))
 obtain ⟨I, hI⟩ := ref
 have hle : I.len L = ps.length := by rw [hI]; exact hL.len
 refine fn_sim hI (mo hp) (cc hp c75) fun Post hP => ?_
 cbv
 refine .br (fun h => ?_) (fun h => ?_)
 ·have h1 : ps.length = 0 := by
   have h' : rCmp .eql ((I.len L : Nat) : Int) 0 = true := by rw [hI] at h ⊢; exact h
   rw [hle] at h'
   have : (ps.length : Int) = 0 := by simpa [rCmp] using h'
   omega
  cbv
  exact hP _ _ [0, 1] [] _ _ (by decide) rfl rfl rfl rfl rfl (.inl ⟨List.eq_nil_of_length_eq_zero h1, rfl, rfl⟩)
 ·have h1 : 0 < ps.length := by
   have h' : rCmp .eql ((I.len L : Nat) : Int) 0 = false := by rw [hI] at h ⊢; exact h
   rw [hle] at h'
   have : ¬ (ps.length : Int) = 0 := by simpa [rCmp] using h'
   omega
  obtain ⟨q, hq⟩ : ∃ q, ps[0]? = some q := ⟨_, List.getElem?_eq_getElem h1⟩
  obtain ⟨D, hD, hr⟩ := hL.get hq
  have hdd : D.length * 8 ≤ 140737488355328 := by rw [hD.len]; exact hd q (List.mem_of_getElem? hq)
  obtain ⟨k, f, t, i, l, p, s, b, d⟩ := q
  cbv
  refine .idx 0 rfl (show 0 < I.len L from by rw [hle]; exact h1) (.nth _ hr ?_)
  cbv
  refine .go [] [] [.bor 1] (k_own hp ⟨.sym k, .sym f, .sym t, .sym i, .sym l, .sym p, .sym s, .sym b⟩ D d hD hdd) rfl rfl rfl rfl rfl rfl ?_
  rintro v m1 ⟨rfl, rfl⟩
  cbv
  exact hP _ _ [0, 1, 3] [] _ _ (by decide) rfl rfl rfl rfl rfl (.inr ⟨⟨k, f, t, i, l, p, s, b, d⟩, D, hq, hD, rfl, rfl⟩)
theorem k_take (rm : Int) (L : List (List G)) (ps : List PK) (hL : isP L ps) (hd : ∀ q ∈ ps, q.d.length * 8 ≤ 140737488355328) (hl : L.length ≤ 1000000) : LValid P 61 [.c (.ptr 0 (.lit 0) 2 0)] [qu rm (.row 1 9 none), .sym 9 L]
  (fun v m1 => (ps = [] ∧ v = .tup [PK.nought.told (.g .nil), gb false] ∧ m1 = [qu rm (.row 1 9 none), .sym 9 L]) ∨ (∃ q D L', ps[0]? = some q ∧ isL .i64 D q.d ∧ isP L' (ps.eraseIdx 0) ∧ v = .tup [q.told (.row 3 1 none), gb true] ∧ m1 = [qu rm (.row 2 9 none), .dead, .sym 9 L', .sym 1 D])) := by
 obtain ⟨I, hI⟩ := ref
 have hle : I.len L = ps.length := by rw [hI]; exact hL.len
 refine fn_sim hI (mo hp) (cc hp c61) fun Post hP => ?_
 cbv
 refine .go [0, 1] [] [] (k_peek hp rm L ps hL hd hl) rfl rfl rfl rfl rfl rfl ?_
 rintro v m1 (⟨h1, rfl, rfl⟩ | ⟨q, D, h1, hD, rfl, rfl⟩)
 ·cbv
  refine br_f rfl ?_
  cbv
  exact hP _ _ [0, 1] [] _ _ (by decide) rfl rfl rfl rfl rfl (.inl ⟨h1, rfl, rfl⟩)
 ·obtain ⟨k, f, t, i, l, p, s, b, d⟩ := q
  have hp0 : 0 < L.length := by rw [hL.len]; exact (List.getElem?_eq_some_iff.1 h1).1
  cbv
  refine br_t rfl ?_
  cbv
  refine .go [1] [] [] (delete_ hp L 0 (.lit 0) (.lit 1) hp0 rfl rfl (by omega)) rfl rfl rfl rfl rfl rfl ?_
  rintro v m1 ⟨rfl, L', hL', rfl⟩
  cbv
  exact hP _ _ [0, 1, 5, 3] [] _ _ (by decide) rfl rfl rfl rfl rfl (.inr ⟨⟨k, f, t, i, l, p, s, b, d⟩, D, L', h1, hD, by rw [hL']; exact hL.del 0, rfl, rfl⟩)
end
end Go.Proofs.Ytofdnnjkfpomcaa.E

/- PacketWakes. -/
namespace Go.Proofs.Ytofdnnjkfpomcaa.E
open Go
set_option linter.unusedVariables false
set_option maxRecDepth 100000

def reqB (k : Int) : Bool := decide (1 ≤ k) && decide (k ≤ 6)
section
variable {P : Program} (hp : P = Try.prog)
include hp
theorem request (k : Z) : LValid P 33 [.c (.g (.int .i64 k))] [] (fun v m1 => ∃ t, t = reqB k.val ∧ v = boo t ∧ m1 = []) := by
 refine bx (LValid.boo (LValid.sy ?_))
 show LValid P 33 [.c (.g (.int .i64 (.sym k.val)))] [] _
 generalize k.val = k
 obtain ⟨I, hI⟩ := ref
 have hX : ∀ q : Bool, I.cmp .geq k 1 = q → reqB k = (q && I.cmp .leq k 6) := fun q h => by rw [← h, hI]; rfl
 refine fn_sim hI (mo hp) (cc hp c33) fun Post hP => ?_
 cbv
 refine .br (fun g => ?_) (fun g => ?_)
 ·have g := hX _ g
  cbv
  exact hP _ _ [] [] _ _ .nil rfl rfl rfl rfl rfl ⟨_, rfl, g.symm, rfl⟩
 ·have g := hX _ g
  cbv
  exact hP _ _ [] [] _ _ .nil rfl rfl rfl rfl rfl ⟨_, rfl, g.symm, rfl⟩
end
end Go.Proofs.Ytofdnnjkfpomcaa.E

/- The network: how its memory is told; a port's sorts. -/
namespace Go.Proofs.Ytofdnnjkfpomcaa.E
open Go
set_option linter.unusedVariables false
set_option maxRecDepth 100000

/-- Pools and queues of nodes, from block b on: requests' pool, queue, answers' pool, queue. -/
def fabB (o i : Int) : Nat → List (List (List G)) → Mem
 | b, Lr :: Lq :: La :: Lb :: r => qu o (.row (b + 1) 9 none) :: .sym 9 Lr :: qu i (.row (b + 3) 9 none) :: .sym 9 Lq :: qu o (.row (b + 5) 9 none) :: .sym 9 La :: qu 1 (.row (b + 7) 9 none) :: .sym 9 Lb :: fabB o i (b + 8) r
 | _, _ => []
def fabP : Nat → Nat → List (List C)
 | b, n + 1 => [.ptr b (.lit 0) 2 0, .ptr (b + 2) (.lit 0) 2 0, .ptr (b + 4) (.lit 0) 2 0, .ptr (b + 6) (.lit 0) 2 0] :: fabP (b + 8) n
 | _, 0 => []
/-- A network of n nodes. -/
def fabM (o i : Int) (n : Nat) (Ls : List (List (List G))) : Mem := .lit 1 [[.row 1 4 none]] :: .lit 4 (fabP 2 n) :: fabB o i 2 Ls
/-- Pool or queue c has new rows. -/
def mv (M : Mem) (c : Nat) (room : Int) (L : List (List G)) : Mem := (M.set (2 + 2 * c) (qu room (.row M.length 9 none))).set (3 + 2 * c) .dead ++ [.sym 9 L]
theorem bx' {P : Program} {f : FuncId} {args : List V1} {m : Mem} {x : Bool} {Q : Mem → Prop} (h : LValid P f args m (fun v m1 => v = boo x ∧ Q m1)) : LValid P f args m (fun v m1 => ∃ t, t = x ∧ v = boo t ∧ Q m1) := h.mono fun v m1 h => ⟨_, rfl, h.1, h.2⟩
/-- All pools with their queues, in order. -/
def fabR : Nat → Nat → List (List C)
 | b, n + 1 => [.ptr b (.lit 0) 2 0, .ptr (b + 2) (.lit 0) 2 0] :: [.ptr (b + 4) (.lit 0) 2 0, .ptr (b + 6) (.lit 0) 2 0] :: fabR (b + 8) n
 | _, 0 => []
def outC (B : Nat) : Nat → C
 | 0 => .g .nil
 | _ + 1 => .row B 2 none
def outB : Nat → Mem
 | 0 => []
 | n + 1 => [.lit 2 (fabR 2 (n + 1))]
/-- How many packets the first pools have. -/
def sumLen : Nat → List (List (List G)) → Nat
 | i + 1, L :: r => L.length + sumLen i r
 | _, _ => 0
theorem sumLen_step : ∀ (j : Nat) (l : List (List (List G))) (L : List (List G)), l[j]? = some L → sumLen (j + 1) l = sumLen j l + L.length
 | 0, L :: r, L', h => by cases h; simp [sumLen]
 | j + 1, L :: r, L', h => by
  have := sumLen_step j r L' h
  simp only [sumLen] at this ⊢
  omega
 | j, [], L', h => by simp at h
/-- What is left of a place behind j pools. -/
def isA (a z : Int) (j : Nat) (l : List (List (List G))) : Prop := a = IntKind.i64.wrap (z - (sumLen j l : Nat)) ∧ (z < 0 ∨ ((sumLen j l : Nat) : Int) ≤ z)
theorem isA_nil {z : Int} {l : List (List (List G))} (h : -9223372036854775808 ≤ z ∧ z ≤ 9223372036854775807) : isA z z 0 l := by
 unfold isA
 have : sumLen 0 l = 0 := by cases l <;> rfl
 rw [this, wrap_in _ (by omega) (by omega)]
 omega
theorem isA_step {z a x : Int} {j : Nat} {l : List (List (List G))} {L : List (List G)} (hz : -9223372036854775808 ≤ z ∧ z ≤ 9223372036854775807) (ha : isA a z j l) (hL : l[j]? = some L) (hx : x = ((L.length : Nat) : Int)) (hs : sumLen j l + L.length ≤ 100000000) :
  (ints.cmp .geq a 0 = true → ints.cmp .lss a x = true → ∃ n : Nat, isN a n ∧ z = ((sumLen j l + n : Nat) : Int) ∧ n < L.length) ∧
  (ints.cmp .geq a 0 = true → ints.cmp .lss a x = false → isA (ints.bin .sub .i64 a x) z (j + 1) l) ∧ (ints.cmp .geq a 0 = false → isA (ints.bin .sub .i64 a x) z (j + 1) l) := by
 unfold isA at ha ⊢
 rw [sumLen_step j l L hL]
 obtain ⟨h1, h2⟩ := ha
 simp only [ints, rCmp, rBin, decide_eq_true_eq, decide_eq_false_iff_not, IntKind.wrap_i64] at h1 ⊢
 refine ⟨fun g1 g2 => ⟨a.toNat, by unfold isN; omega, by omega, by omega⟩, fun g1 g2 => ⟨by omega, by omega⟩, fun g1 => ⟨by omega, by omega⟩⟩
def sendB (n : Int) (q : PK) : Bool := checkB q && belB q.f 0 n && belB q.t 0 n
/-- The pool of a packet: its sender's, of its sort. -/
def place (q : PK) : Nat := 4 * q.f.toNat + (if reqB q.k then 0 else 2)
/-- Packets that may be under way in a network of n nodes. -/
def okQ (n : Int) (ps : List PK) : Prop := ∀ q ∈ ps, sendB n q = true ∧ ∀ y ∈ q.d, -9223372036854775808 ≤ y ∧ y ≤ 9223372036854775807
theorem okQ.len {n : Int} {ps : List PK} (h : okQ n ps) : ∀ q ∈ ps, q.d.length * 8 ≤ 140737488355328 := fun q hq => by
 have h1 := (h q hq).1
 unfold sendB checkB at h1
 simp only [Bool.and_eq_true, decide_eq_true_eq] at h1
 omega
section
variable {P : Program} (hp : P = Try.prog)
include hp
theorem sort_ (t : BB) (o i : Int) (Lr Lq La Lb : List (List G)) : LValid P 32 [.agg [.ptr 0 (.lit 0) 2 0, .ptr 2 (.lit 0) 2 0, .ptr 4 (.lit 0) 2 0, .ptr 6 (.lit 0) 2 0], .c (.g (.bool t))] (fabB o i 0 [Lr, Lq, La, Lb])
  (fun v m1 => ((t.val = true ∧ v = .one (.agg [.ptr 0 (.lit 0) 2 0, .ptr 2 (.lit 0) 2 0])) ∨ (t.val = false ∧ v = .one (.agg [.ptr 4 (.lit 0) 2 0, .ptr 6 (.lit 0) 2 0]))) ∧ m1 = fabB o i 0 [Lr, Lq, La, Lb]) := by
 refine LValid.sy ?_
 show LValid P 32 [.agg [.ptr 0 (.lit 0) 2 0, .ptr 2 (.lit 0) 2 0, .ptr 4 (.lit 0) 2 0, .ptr 6 (.lit 0) 2 0], .c (.g (.bool (.sym t.val)))] _ _
 generalize t.val = t
 obtain ⟨I, hI⟩ := ref
 refine fn_sim hI (mo hp) (cc hp c32) fun Post hP => ?_
 cbv
 refine .br (fun h => ?_) (fun h => ?_)
 ·cbv
  exact hP _ _ [0, 1, 2, 3, 4, 5, 6, 7] [] _ _ (by decide) rfl rfl rfl rfl rfl ⟨.inl ⟨h, rfl⟩, rfl⟩
 ·cbv
  exact hP _ _ [0, 1, 2, 3, 4, 5, 6, 7] [] _ _ (by decide) rfl rfl rfl rfl rfl ⟨.inr ⟨h, rfl⟩, rfl⟩
end
end Go.Proofs.Ytofdnnjkfpomcaa.E

/- Rounds of a range over a function: what the evaluator shows of a body holds in a round; what worlds with the same cells keep. -/
namespace Go.Proofs.Ytofdnnjkfpomcaa.E
open Go
set_option linter.unusedVariables false
set_option linter.unusedSectionVars false

section
variable {P : Program} {I : Ints} {p : Nat} {E E0 : Env} {m m0 : Mem} {w w0 w' : World} {ts : List A} {a : Act}
def bodyOps : Code → Array Oper
 | .block _ (.region _ ops _) => ops
 | _ => #[]
def noDefer (ops : Array Oper) : Bool := ops.all fun o => match o.op with
 | .defer _ => false
 | _ => true
theorem rowsIn_round {l n : Nat} {row : String} {args : Array Value} {R : Value → World → Prop} (h : Rows P row args w R) : RowsIn (Fence.wide.inRound l) n P row args w R := fun c cs _ =>
 let ⟨v, w', r, s⟩ := h c cs
 ⟨v, w', r, stepsIn_wide.2 s⟩
theorem uponIn_round {l n : Nat} {o : Oper} {next : Act → World → Prop} {Q : Exit → Act → World → Prop} {r : Result Next} (h : o.upon P a next Q r) : o.uponIn (Fence.wide.inRound l) n P a next Q r := by
 cases r with
 | ok v w =>
  cases v with
  | enter f args => exact ⟨fun h => (by cases h), (callsIn_wide.2 h).inRound l⟩
  | row row args => exact ⟨fun h => (by cases h), rowsIn_round h⟩
  | round l f tmps assign body => exact h.elim
  | value v => exact h
  | skip => exact h
  | defer d => exact h
  | _ => exact h.elim
 | halt x w =>
  cases x with
  | panic v => exact h
  | _ => exact h.elim
theorem wpAnyIn_round {l n : Nat} {md : Region.Mode} {ops : Array Oper} {Q : Exit → Act → World → Prop} (hd : noDefer ops = true) (hQ : ¬ LetsOut Q) : ∀ (k : Nat) (listed : Array Bool) (a : Act) (w : World), wpAny P md ops Q k listed a w → wpAnyIn (Fence.wide.inRound l) n P md ops Q k listed a w
 | 0, _, _, _, h => h
 | k + 1, listed, a, w, h => by
  refine ⟨h.1, fun i hi => ?_⟩
  have h1 := h.2 i hi
  unfold wpOp at h1
  unfold wpOpIn
  cases hq : ops[i]? with
  | none =>
   rw [hq] at h1
   exact wpAnyIn_round hd hQ k _ _ _ h1
  | some o =>
   rw [hq] at h1
   simp only at h1 ⊢
   have hmono : ∀ {K K' : Act → World → Prop} {r : Result Next}, (∀ a w, K a w → K' a w) → o.upon P a K Q r → o.upon P a K' Q r := fun {K K' r} hK h => by
    cases r with
    | ok v w =>
     cases v with
     | enter f args => exact Calls.mono h fun e w' h => by cases e <;> first | exact hK _ _ h | exact h
     | row row args => exact fun c cs => let ⟨v, w', r, s⟩ := h c cs; ⟨v, w', hK _ _ r, s⟩
     | round l f tmps assign body => exact h.elim
     | value v => exact hK _ _ h
     | skip => exact hK _ _ h
     | defer d => exact hK _ _ h
     | _ => exact h.elim
    | halt x w =>
     cases x with
     | panic v => exact h
     | _ => exact h.elim
   split at h1
   ·rename_i hw
    rw [if_pos hw]
    rcases h1 with h1 | ⟨_, h1⟩
    ·have hnd : ∀ c, o.op ≠ .defer c := fun c hc => by
      have := (Array.all_eq_true_iff_forall_mem.1 hd) o (Array.mem_of_getElem? hq)
      rw [hc] at this
      cases this
     refine ⟨fun _ _ => trivial, ?_⟩
     show o.uponIn _ n P a _ Q ((o.semAt (some l) a.eval).run P w)
     rw [Oper.semAt_some l _ o hnd]
     exact uponIn_round (hmono (fun a w h => wpAnyIn_round hd hQ k _ a w h) h1)
    ·exact (hQ h1).elim
   ·rename_i hw
    rw [if_neg hw]
    exact ⟨fun _ _ => trivial, wpAnyIn_round hd hQ k _ _ _ h1⟩
/-- A body that is one region, which draws its order: in a round it does what the evaluator says. -/
theorem round_sim {lo l n fuel id id2 : Nat} {ops : Array Oper} {x : X} (hI : I = ints) (hmo : P.follows .mixedOrders = true) (hc : comp P [] (fuel + 2) (.block id (.region id2 ops true)) = some x) (hd : noDefer ops = true) {Q : Exit → Act → World → Prop} (hQ : ¬ LetsOut Q) (hQ' : ∀ c a w, ¬ Q (.panic c) a w)
  (hN : Now lo E0 m0 w0 E m w ts a) {k : List A → Mem → Tree} (h : Holds P I p (ev I x ts m fun e ts m => match e with | .normal => k ts m | .exit _ => .fail | .ret => .fail))
  (hK : ∀ ts' m' E' w' a', Holds P I p (k ts' m') → Now lo E0 m0 w0 E' m' w' ts' a' → Q .normal a' w') : (Code.block id (.region id2 ops true)).wpIn (Fence.wide.inRound l) n P Q a w := by
 obtain ⟨x1, h1, rfl⟩ := Option.map_eq_some_iff.1 hc
 simp only [comp] at h1
 split at h1
 ·rename_i s hns hs
  obtain ⟨d, hd1, rfl⟩ := Option.map_eq_some_iff.1 h1
  refine wpIn_block ?_
  cases h with
  | drawn W h =>
  refine wpIn_region_any hmo (wpAnyIn_round (Q := Exit.inBlock id Q) hd (fun ⟨a, w, h⟩ => hQ ⟨a, w, h⟩) _ _ _ _ (wpAny_of_held _ _ _ _ (drawn_sim (Q := Exit.inBlock id Q) hI hns (fun c d v a w h => (hQ' c _ _ h).elim) (W, m.length) ops.size _ s d hs hd1 hN.drew h (fun ts' m' E' w' a' hk hN' => hK ts' m' E' w' a' hk hN'))))
 ·cases h1

/-! ### What cells keep -/
def C.calm : C → Bool
 | .stamp _ _ => false
 | _ => true
def Blk.calm : Blk → Bool
 | .lit _ rows => rows.all fun r => r.all C.calm
 | .mp _ _ => false
 | _ => true
theorem RowAt.keeps (hc : ∀ x v, w.cell? x = some v → w'.cell? x = some v) {T T' : Nat → Prop} (hT : ∀ k, T k → T' k) {es : Nat} {l : List (List G)} {A : Option Addr} {u : Nat → Nat → Value} (h : RowAt w T es l A u) : RowAt w' T' es l A u :=
 ⟨h.wid, fun i r j x hi hj => let ⟨a, off, h1, h2, h3⟩ := h.cell i r j x hi hj; ⟨a, off, h1, hT _ h2, hc _ _ h3⟩, fun h1 => let ⟨a, off, h2, h3⟩ := h.some_ h1; ⟨a, off, h2, hT _ h3⟩⟩
theorem GRep.keeps (hc : ∀ x v, w.cell? x = some v → w'.cell? x = some v) {F F' : Nat → Prop} (hF : ∀ k, F k → F' k) {x : G} {v : Value} (h : GRep F w x v) : GRep F' w' x v := by
 induction h with
 | bool b => exact .bool b
 | int k z => exact .int k z
 | str s => exact .str s
 | nilp => exact .nilp
 | nil => exact .nil
 | rows u hn hr hg ih => exact .rows u hn (hr.keeps hc hF) ih
theorem there_keeps (hc : ∀ x v, w.cell? x = some v → w'.cell? x = some v ∧ w'.frozen? x = w.frozen? x) {a o n : Nat} (ht : w.there a o n) : w'.there a o n := fun j hj => by
 obtain ⟨h1, h2⟩ := ht j hj
 obtain ⟨v, hv⟩ := Option.isSome_iff_exists.1 h1
 obtain ⟨h3, h4⟩ := hc _ _ hv
 exact ⟨by rw [h3]; rfl, h4.trans h2⟩
theorem CRep.keeps (hc : ∀ x v, w.cell? x = some v → w'.cell? x = some v ∧ w'.frozen? x = w.frozen? x) {x : C} {v : Value} (hcalm : x.calm = true) (hx : CRep E m w x v) : CRep E m w' x v := by
 have hc1 : ∀ x v, w.cell? x = some v → w'.cell? x = some v := fun x v h => (hc x v h).1
 cases x with
 | any => exact hx
 | g x => exact GRep.keeps hc1 (fun _ h => h) hx
 | bor es l =>
  obtain ⟨A, c, u, h1, h2, h3, h4⟩ := hx
  exact ⟨A, c, u, h1, h2, h3.keeps hc1 (fun _ h => h), fun i r j x hi hj => (h4 i r j x hi hj).keeps hc1 (fun _ h => h)⟩
 | gp row j =>
  obtain ⟨a, off, h1, h2, h3⟩ := hx
  exact ⟨a, off, h1, h2, fun j x hj => let ⟨u, h4, h5⟩ := h3 j x hj; ⟨u, hc1 _ _ h4, h5.keeps hc1 (fun _ h => h)⟩⟩
 | ptr b i es j => exact hx
 | row b es cap =>
  obtain ⟨h0, ho, hx⟩ := hx
  refine ⟨h0, ho, fun blk hb hl => ?_⟩
  obtain ⟨k1, k2, k3⟩ := hx blk hb hl
  refine ⟨k1, k2, k3.imp (fun h => h) ?_⟩
  rintro ⟨a, base, c, e1, e2, e3, e4, e5⟩
  exact ⟨a, base, c, e1, e2, e3, e4, there_keeps hc e5⟩
 | sl b i es n cap =>
  obtain ⟨h0, ho, hx⟩ := hx
  refine ⟨h0, ho, fun blk hb hl => ?_⟩
  obtain ⟨k1, k2, k3, k4⟩ := hx blk hb hl
  refine ⟨k1, k2, k3, k4.imp (fun h => h) ?_⟩
  rintro ⟨a, base, c, off, e1, e2, e3, e4, e5, e6⟩
  exact ⟨a, base, c, off, e1, e2, e3, e4, e5, there_keeps hc e6⟩
 | fn f l => exact hx
 | map b => exact hx
 | stamp b z => cases hcalm
theorem Sat.keeps (hc : ∀ x v, w.cell? x = some v → w'.cell? x = some v ∧ w'.frozen? x = w.frozen? x) (hz : w.heap.size ≤ w'.heap.size) (hcalm : m.all Blk.calm = true) (h : Sat E m w) : Sat E m w' where
 rep := fun id blk hb hl => by
  have hcb := List.all_eq_true.1 hcalm blk (List.mem_of_getElem? hb)
  refine (h.rep id blk hb hl).imp (fun h => h) fun ⟨a, base, e, h1, h2, h3⟩ => ⟨a, base, e, there_keeps hc h1, Nat.lt_of_lt_of_le h2 hz, fun i row hi => ⟨(h3 i row hi).1, fun j x hj => ?_⟩⟩
  obtain ⟨u, h4, h5⟩ := (h3 i row hi).2 j x hj
  refine ⟨u, (hc _ _ h4).1, h5.keeps hc ?_⟩
  cases blk with
  | dead => exact hl.elim
  | lit es rows =>
   have h6 := List.all_eq_true.1 hcb row (List.mem_of_getElem? hi)
   exact List.all_eq_true.1 h6 x (List.mem_of_getElem? hj)
  | sym es l =>
   simp only [Blk.rows, List.getElem?_map] at hi
   obtain ⟨r, _, rfl⟩ := Option.map_eq_some_iff.1 hi
   rw [List.getElem?_map] at hj
   obtain ⟨g, _, rfl⟩ := Option.map_eq_some_iff.1 hj
   rfl
  | mp ag l => cases hcb
 inj := h.inj
 dis := h.dis
 old := fun k hk => Nat.lt_of_lt_of_le (h.old k hk) hz
 maps := fun id ag l hb => by
  have := List.all_eq_true.1 hcalm _ (List.mem_of_getElem? hb)
  cases this
theorem grown_cells {row : Option Nat} (hg : w.grownBy w' row) (hr : ∀ r, row = some r → ∃ o : Obj, w.heap[r]? = some o ∧ o.isCells = false) : ∀ x v, w.cell? x = some v → w'.cell? x = some v ∧ w'.frozen? x = w.frozen? x := fun x v h =>
 ⟨cell_kept h hg hr, frozen_kept h hg hr⟩
end
end Go.Proofs.Ytofdnnjkfpomcaa.E

/- The loop of Unpack: eight bytes as a number; one round. -/
namespace Go.Proofs.Ytofdnnjkfpomcaa.E
open Go Go.RowKit
set_option linter.unusedVariables false
set_option maxRecDepth 100000

/-- A byte more. -/
def numStep (n : Int) (c : BitVec 8) : Int := rBin .or .u64 (rBin .shl .u64 n 8) (IntKind.u64.wrap (w8 c))
/-- The number of bytes. -/
def numB (bs : List (BitVec 8)) : Int := IntKind.i64.wrap (bs.foldl numStep 0)
def isV (v : Int) (bs : List (BitVec 8)) (j : Nat) : Prop := v = (bs.take j).foldl numStep 0
/-- A packet's cells, its data in cell c. -/
def pkC (k f t i l p s : Int) (b : Bool) (c : C) : List C := [.g (.int .i64 (.sym k)), .g (.int .i64 (.sym f)), .g (.int .i64 (.sym t)), .g (.int .i64 (.sym i)), .g (.int .i64 (.sym l)), .g (.int .i64 (.sym p)), .g (.int .i64 (.sym s)), .g (.bool (.sym b)), c]
section
variable {P : Program} (hp : P = Try.prog)
include hp
theorem number (L : List (List G)) (bs : List (BitVec 8)) (hL : isB L bs) (hn : bs.length ≤ 1000000000) : LValid P 72 [.c (.bor 1 L)] [] (fun v m1 => ∃ t, t = numB bs ∧ v = i64 t ∧ m1 = []) := by
 obtain ⟨I, hI⟩ := ref
 have hle : I.len L = bs.length := by rw [hI]; exact hL.len
 refine fn_sim hI (mo hp) (cc hp c72) fun Post hP => ?_
 cbv
 refine .loop_next (fun n ts m => ∃ (j : Nat) (z c v : Int), n = bs.length - j ∧ isN z j ∧ isN c bs.length ∧ j ≤ bs.length ∧ isV v bs j ∧ ts = fr 20 [(3, .one (.c (.g (.int .u64 (.sym v))))), (6, .one (.c (.bor 1 L))), (7, i64 c), (8, i64 z)] ∧ m = []) bs.length _ _ [] [] [3, 6, 7, 8] (by decide) rfl rfl rfl
  ⟨0, 0, I.ofNat (I.len L), 0, rfl, rfl, by rw [hle, hI]; rfl, Nat.zero_le _, rfl, rfl, rfl⟩ ?_
 rintro next n hnext ts m ⟨j, z, c, v, hnn, hz, hc, hj, hv, rfl, rfl⟩
 have hz1 : isN (I.bin .add .i64 z 1) (j + 1) := by unfold isN at hz ⊢; rw [hI]; simp only [ints, rBin]; rw [wrap_in] <;> omega
 have hjl : j < bs.length → j < I.len L := fun h => by rw [hle]; exact h
 have hget : j < bs.length → ∃ x, bs[j]? = some x ∧ L[j]? = some [.int .u8 (.sym (w8 x))] := fun h => ⟨_, List.getElem?_eq_getElem h, hL.get (List.getElem?_eq_getElem h)⟩
 have hv1 : ∀ x, bs[j]? = some x → isV (I.bin .or .u64 (I.bin .shl .u64 v 8) (I.conv .u64 (w8 x))) bs (j + 1) := fun x hx => by
  unfold isV at hv ⊢
  rw [List.take_add_one, hx, List.foldl_append, ← hv, hI]
  rfl
 have hend : j = bs.length → I.conv .i64 v = numB bs := fun h => by
  unfold isV at hv
  rw [hv, h, List.take_length, hI]
  rfl
 have hcm : (I.cmp .lss z c = true → j < bs.length) ∧ (I.cmp .lss z c = false → j = bs.length) := by
  unfold isN at hz hc
  rw [hI]
  simp only [ints, rCmp, decide_eq_true_eq, decide_eq_false_iff_not]
  omega
 cbv
 refine .br (fun g1 => ?_) (fun g1 => ?_)
 ·have hj1 := hcm.1 g1
  obtain ⟨x, hx, hr⟩ := hget hj1
  have h2 := hv1 x hx
  cbv
  refine .idx j hz (hjl hj1) (.nth _ hr ?_)
  cbv
  exact hnext _ _ (bs.length - (j + 1)) [] [] [3, 6, 7, 8] _ _ (by omega) (by decide) rfl rfl rfl ⟨j + 1, _, c, _, rfl, hz1, hc, hj1, h2, rfl, rfl⟩
 ·have hj1 := hend (hcm.2 g1)
  cbv
  exact hP _ _ [] [] _ _ (by decide) rfl rfl rfl rfl rfl ⟨_, hj1, rfl, rfl⟩
theorem chunk (L : List (List G)) : LValid P 71 [.c (.g (.rows 1 L)), .c (.g (.int .i64 (.lit 8)))] []
  (fun v m1 => v = .one (.c (.fn 79 [(0, 1, 0), (1, 1, 0)])) ∧ m1 = [.lit 1 [[.g (.rows 1 L)]], .lit 1 [[.g (.int .i64 (.lit 8))]]]) := by
 obtain ⟨I, hI⟩ := ref
 refine fn_sim hI (mo hp) (cc hp c71) fun Post hP => ?_
 cbv
 exact hP _ _ [0, 1] [] _ _ (by decide) rfl rfl rfl rfl rfl ⟨rfl, rfl⟩
set_option maxHeartbeats 2000000 in
theorem body_tree {I : Ints} (hI : I = ints) (k f t i l p s : Int) (b : Bool) (D : List (List G)) (d : List Int) (hD : isL .i64 D d) (hd : d.length ≤ 1000000) (C : List (List G)) (cs : List (BitVec 8)) (hC : isB C cs) (hcs : cs.length ≤ 1000000000)
  (next : List A → Mem → Tree) (hnext : ∀ (ts : List A) (m : Mem) (id : Nat) (D' : List (List G)), isL .i64 D' (d ++ [numB cs]) → invMem I [0, id] (.frz []) m = [.lit 9 [pkC k f t i l p s b (.row 1 1 none)], .sym 1 D'] → 2 ≤ id → Holds P I 2 (next ts m)) :
  Holds P I 2 (ev I x56b (fr 100 [(6, .one (.c (.ptr 0 (.lit 0) 9 0))), (7, .one (.c (.g (.rows 1 C))))]) [.lit 9 [pkC k f t i l p s b (.row 1 1 none)], .sym 1 D] fun e ts m => match e with | .normal => next ts m | .exit _ => .fail | .ret => .fail) := by
 have hle : I.len D = d.length := by rw [hI]; exact hD.len
 have hap : ∀ x : Int, isL .i64 (I.app D [[.int .i64 (.sym x)]]) (d ++ [x]) := fun x => by
  unfold isL at hD ⊢
  rw [hI, hD]
  simp [ints, nrow]
 have hapl : ∀ x : Int, I.len (I.app D [[.int .i64 (.sym x)]]) ≤ 1000001 := fun x => by
  have := (hap x).len
  rw [hI] at this ⊢
  show List.length _ ≤ _
  rw [show (ints.app D [[G.int .i64 (.sym x)]]).length = _ from this, List.length_append]
  simp
  omega
 cbv
 refine .drawn [0, 1] ?_
 cbv
 refine .both ?_ ?_
 ·cbv
  refine .go [] [] [.bor 1] (number hp C cs hC hcs) rfl rfl rfl rfl rfl rfl ?_
  rintro v m1 ⟨x, hx, rfl, rfl⟩
  have h1 : isL .i64 (I.app D [[.int .i64 (.sym x)]]) (d ++ [numB cs]) := by rw [← hx]; exact hap x
  have h2 := hapl x
  cbv
  refine .most (Nat.le_trans (Nat.mul_le_mul_right 8 h2) (by decide)) (Nat.le_trans h2 (by decide)) ?_
  cbv
  exact hnext _ _ 3 _ h1 rfl (by decide)
 ·cbv
  refine .go [] [] [.bor 1] (number hp C cs hC hcs) rfl rfl rfl rfl rfl rfl ?_
  rintro v m1 ⟨x, hx, rfl, rfl⟩
  have h1 : isL .i64 (I.app D [[.int .i64 (.sym x)]]) (d ++ [numB cs]) := by rw [← hx]; exact hap x
  have h2 := hapl x
  cbv
  refine .both ?_ ?_
  ·cbv
   refine .most (Nat.le_trans (Nat.mul_le_mul_right 8 h2) (by decide)) (Nat.le_trans h2 (by decide)) ?_
   cbv
   exact hnext _ _ 3 _ h1 rfl (by decide)
  ·cbv
   refine .most (Nat.le_trans (Nat.mul_le_mul_right 8 h2) (by decide)) (Nat.le_trans h2 (by decide)) ?_
   cbv
   exact hnext _ _ 3 _ h1 rfl (by decide)
/-- One round. -/
theorem body_run (k f t i l p s : Int) (b : Bool) (D : List (List G)) (d : List Int) (hD : isL .i64 D d) (hd : d.length ≤ 1000000) (C : List (List G)) (cs : List (BitVec 8)) (hC : isB C cs) (hcs : cs.length ≤ 1000000000)
  {l0 n : Nat} {Er : Env} {W : World} {a : Act} {Q : Exit → Act → World → Prop} (hQ : ¬ LetsOut Q) (hQ' : ∀ c a w, ¬ Q (.panic c) a w)
  (hA : At Er [.lit 9 [pkC k f t i l p s b (.row 1 1 none)], .sym 1 D] W (fr 100 [(6, .one (.c (.ptr 0 (.lit 0) 9 0))), (7, .one (.c (.g (.rows 1 C))))]) a) (had : a.defers = [])
  (hK : ∀ (E' : Env) (m' : Mem) (W' : World) (a' : Act) (id : Nat) (D' : List (List G)), isL .i64 D' (d ++ [numB cs]) → invMem ints [0, id] (.frz []) m' = [.lit 9 [pkC k f t i l p s b (.row 1 1 none)], .sym 1 D'] → 2 ≤ id → Sat E' m' W' →
   Grow (fun _ => True) Er [.lit 9 [pkC k f t i l p s b (.row 1 1 none)], .sym 1 D] W E' m' W' → Q .normal a' W') :
  (rfBody (rfOf P 56)).wpIn (Fence.wide.inRound l0) n P Q a W := by
 obtain ⟨I, hI⟩ := ref
 have e : rfBody (rfOf P 56) = .block 1 (.region 7 (bodyOps (rfBody (rfOf P 56))) true) := by rw [hp]; kernel_rfl
 have hd : noDefer (bodyOps (rfBody (rfOf P 56))) = true := by rw [hp]; kernel_rfl
 have hc : comp P [] (998 + 2) (rfBody (rfOf P 56)) = some x56b := by rw [hp]; exact c56b
 rw [e] at hc ⊢
 have hN : Now 0 Er [.lit 9 [pkC k f t i l p s b (.row 1 1 none)], .sym 1 D] W Er [.lit 9 [pkC k f t i l p s b (.row 1 1 none)], .sym 1 D] W (fr 100 [(6, .one (.c (.ptr 0 (.lit 0) 9 0))), (7, .one (.c (.g (.rows 1 C))))]) a := ⟨hA, Grow.refl _ _ _ _, Nat.zero_le _, fun _ _ => Nat.zero_le _⟩
 refine round_sim hI (mo hp) hc hd hQ hQ' hN (body_tree hp hI k f t i l p s b D d hD (by assumption) C cs hC hcs (fun ts m => .goal (∃ (id : Nat) (D' : List (List G)), isL .i64 D' (d ++ [numB cs]) ∧ invMem I [0, id] (.frz []) m = [.lit 9 [pkC k f t i l p s b (.row 1 1 none)], .sym 1 D'] ∧ 2 ≤ id)) (fun ts m id D' h1 h2 h3 => .goal ⟨id, D', h1, h2, h3⟩)) (fun ts' m' E' w' a' hk hN' => ?_)
 cases hk with
 | goal hk =>
 obtain ⟨id, D', h1, h2, h3⟩ := hk
 exact hK E' m' w' a' id D' h1 (hI ▸ h2) h3 hN'.sat hN'.grow
end
end Go.Proofs.Ytofdnnjkfpomcaa.E

/- The loop of Unpack: all its rounds. -/
namespace Go.Proofs.Ytofdnnjkfpomcaa.E
open Go Go.RowKit
set_option linter.unusedVariables false
set_option maxRecDepth 100000

/-- The number of the k-th eight bytes. -/
def wordAt (K : Nat) (bs : List (BitVec 8)) (k : Nat) : Int := numB ((bs.take (8 * min k (K - 1) + 8)).drop (8 * min k (K - 1)))
def wordsAt (K : Nat) (bs : List (BitVec 8)) : List Int := (List.range K).map (wordAt K bs)
def C.flat : C → Bool
 | .g (.int _ _) => true
 | .g (.bool _) => true
 | _ => false
theorem CRep.flat {E E' : Env} {m m' : Mem} {w w' : World} {x : C} {u : Value} (hf : x.flat = true) (h : CRep E m w x u) : CRep E' m' w' x u := by
 cases x with
 | g x =>
  cases x with
  | int k z => generalize hu : u = v at h; cases h; exact GRep.int k z
  | bool b => generalize hu : u = v at h; cases h; exact GRep.bool b
  | _ => cases hf
 | _ => cases hf
theorem pkC_get {k f t i l p s : Int} {b : Bool} {c : C} (c' : C) {j : Nat} {x : C} (h : (pkC k f t i l p s b c)[j]? = some x) : (j = 8 ∧ x = c) ∨ (j ≠ 8 ∧ x.flat = true ∧ (pkC k f t i l p s b c')[j]? = some x) := by
 unfold pkC at h ⊢
 match j, h with
 | 0, h => cases h; exact .inr ⟨by decide, rfl, rfl⟩
 | 1, h => cases h; exact .inr ⟨by decide, rfl, rfl⟩
 | 2, h => cases h; exact .inr ⟨by decide, rfl, rfl⟩
 | 3, h => cases h; exact .inr ⟨by decide, rfl, rfl⟩
 | 4, h => cases h; exact .inr ⟨by decide, rfl, rfl⟩
 | 5, h => cases h; exact .inr ⟨by decide, rfl, rfl⟩
 | 6, h => cases h; exact .inr ⟨by decide, rfl, rfl⟩
 | 7, h => cases h; exact .inr ⟨by decide, rfl, rfl⟩
 | 8, h => cases h; exact .inl ⟨rfl, rfl⟩
 | n + 9, h => simp at h
/-- The memory of a round: the packet, its data. -/
abbrev mr (k f t i l p s : Int) (b : Bool) (D : List (List G)) : Mem := [.lit 9 [pkC k f t i l p s b (.row 1 1 none)], .sym 1 D]
/-- What stands between two rounds. -/
structure URel (w : World) (F : Nat → Prop) (ap op : Nat) (k f t i l p s : Int) (b : Bool) (d : List Int) (W : World) : Prop where
 ex : ∃ (Er : Env) (D : List (List G)), isL .i64 D d ∧ Sat Er (mr k f t i l p s b D) W ∧ Er.ρ 0 = some (ap, op) ∧ (∀ a x, Er.ρ 1 = some (a, x) → w.heap.size ≤ a) ∧ (d = [] → Er.ρ 1 = none) ∧ ∀ j, F j → Er.F j
 os : W.os = w.os
 tape : W.tape = w.tape
 output : W.output = w.output
 size : w.heap.size ≤ W.heap.size
 old : ∀ j, j < w.heap.size → j ≠ ap → W.heap[j]? = w.heap[j]?
 stays : Stays w W
theorem URel.own {w : World} {F : Nat → Prop} {ap op : Nat} {k f t i l p s : Int} {b : Bool} (g : List Nat → List Int) : OwnFrom w.heap.size (fun pre W => URel w F ap op k f t i l p s b (g pre) W) := by
 intro pre A B row hs hg hr
 have hc := grown_cells hg (fun r e => (hr r e).2)
 obtain ⟨Er, D, h1, h2, h3⟩ := hs.ex
 have hblk : ∀ j, j < w.heap.size → B.heap[j]? = A.heap[j]? := fun j hj => hg.block j (Nat.lt_of_lt_of_le hj hs.size) (fun e => by
  have := (hr j e.symm).1
  omega)
 refine ⟨⟨Er, D, h1, h2.keeps hc hg.size rfl, h3⟩, hg.os.trans hs.os, hg.tape.trans hs.tape, hg.output.trans hs.output, Nat.le_trans hs.size hg.size, fun j hj hne => (hblk j hj).trans (hs.old j hj hne), ?_⟩
 refine ⟨fun x hx => ?_, fun a es c hm => ?_⟩
 ·obtain ⟨q1, q2⟩ := hs.stays.cell x hx
  obtain ⟨v, hv⟩ := Option.isSome_iff_exists.1 q1
  obtain ⟨q3, q4⟩ := hc x v hv
  exact ⟨by rw [q3]; rfl, q4.trans q2⟩
 ·obtain ⟨es', c', q1, q2⟩ := hs.stays.maps a es c hm
  exact ⟨es', c', (hblk a (Array.getElem?_eq_some_iff.1 hm).1).trans q1, q2⟩
/-- Where the loop begins. -/
theorem URel.start {E : Env} {m : Mem} {w : World} {bp ap op : Nat} {k f t i l p s : Int} {b : Bool} (hs : Sat E m w) (hm : m[bp]? = some (.lit 9 [pkC k f t i l p s b (.g .nil)])) (hρ : E.ρ bp = some (ap, op)) : URel w E.F ap op k f t i l p s b [] w := by
 have hrep := hs.rep bp _ hm trivial
 rw [hρ] at hrep
 refine ⟨⟨⟨E.F, fun _ => False, fun j => if j = 0 then some (ap, op) else none⟩, [], rfl, ?_, rfl, fun a x h => (by cases h), fun _ => rfl, fun _ h => h⟩, rfl, rfl, rfl, Nat.le_refl _, fun _ _ _ => rfl, Stays.refl w⟩
 rcases hrep with ⟨h1, _⟩ | ⟨a_, base, e, h1, h2, h3⟩
 ·cases h1
 cases e
 refine ⟨fun id blk hb hl => ?_, fun i j bi bj a x y hi hj li lj ei ej => ?_, fun i bi a x hi li ei => ?_, fun j hj => hs.old j (.inl (hj.resolve_right (fun h => h))), fun id ag l hb => ?_⟩
 ·match id, hb with
  | 0, hb =>
   cases hb
   refine .inr ⟨ap, op, rfl, h1, h2, fun i row hi => ?_⟩
   obtain ⟨q1, q2⟩ := h3 0 _ rfl
   match i, hi with
   | 0, hi =>
    cases hi
    refine ⟨rfl, fun j x hj => ?_⟩
    rcases pkC_get (.g .nil) hj with ⟨rfl, rfl⟩ | ⟨_, hf, hj'⟩
    ·obtain ⟨u, g1, g2⟩ := q2 8 (.g .nil) rfl
     refine ⟨u, g1, ?_⟩
     have : u = .slice none 0 0 := GRep_nil g2
     subst this
     refine ⟨Nat.lt_succ_self 1, rfl, fun blk hb _ => ?_⟩
     cases hb
     exact ⟨rfl, fun c h => (by cases h), .inl ⟨rfl, rfl⟩⟩
    ·obtain ⟨u, g1, g2⟩ := q2 j x hj'
     exact ⟨u, g1, g2.flat hf⟩
   | n + 1, hi => simp [Blk.rows] at hi
  | 1, hb => cases hb; exact .inl ⟨rfl, rfl⟩
  | n + 2, hb => simp at hb
 ·have h0 : ∀ {j a x}, (if j = 0 then some (ap, op) else none) = some (a, x) → j = 0 := fun {j a x} h => by
   by_cases hj : j = 0
   ·exact hj
   ·simp [hj] at h
  exact (h0 ei).trans (h0 ej).symm
 ·by_cases hj : i = 0
  ·simp [hj] at ei
   have := hs.dis bp _ ap op hm trivial hρ
   exact ⟨by rw [← ei.1]; exact this.1, fun h => h⟩
  ·simp [hj] at ei
 ·match id, hb with
  | 0, hb => cases hb
  | 1, hb => cases hb
  | n + 2, hb => simp at hb
/-- A round more. -/
theorem URel.step {w W W' : World} {F : Nat → Prop} {ap op : Nat} {k f t i l p s : Int} {b : Bool} {d d' : List Int} {D D' : List (List G)} {Er E' : Env} {m' : Mem} {id : Nat} (hap : ap < w.heap.size)
  (h : URel w F ap op k f t i l p s b d W) (hs : Sat Er (mr k f t i l p s b D) W) (h0 : Er.ρ 0 = some (ap, op)) (h1 : ∀ a x, Er.ρ 1 = some (a, x) → w.heap.size ≤ a) (hF : ∀ j, F j → Er.F j) (hd' : d' ≠ []) (hD' : isL .i64 D' d')
  (hi : invMem ints [0, id] (.frz []) m' = mr k f t i l p s b D') (hid : 2 ≤ id) (hs' : Sat E' m' W') (hg : Grow (fun _ => True) Er (mr k f t i l p s b D) W E' m' W') : URel w F ap op k f t i l p s b d' W' := by
 have foot : ∀ j, Foot (fun _ => True) Er (mr k f t i l p s b D) j → j = ap ∨ w.heap.size ≤ j := by
  rintro j ⟨id, blk, x, q1, _, _, q4⟩
  match id, q1 with
  | 0, _ => rw [h0] at q4; cases q4; exact .inl rfl
  | 1, _ => exact .inr (h1 _ _ q4)
  | n + 2, q1 => simp at q1
 have hold : ∀ j, j < w.heap.size → j ≠ ap → W'.heap[j]? = W.heap[j]? := fun j hj hne => hg.block j (Nat.lt_of_lt_of_le hj h.size) (fun hf => (foot j hf).elim hne (by omega))
 have hm0 : ∃ blk, m'[0]? = some blk ∧ blk.live := by
  have : (invMem ints [0, id] (.frz []) m')[0]? = some (.lit 9 [pkC k f t i l p s b (.row 1 1 none)]) := by rw [hi]; rfl
  simp only [invMem, List.map_cons, List.getElem?_cons_zero, Option.some.injEq] at this
  rw [List.getD_eq_getElem?_getD] at this
  cases hq : m'[0]? with
  | none => rw [hq] at this; cases this
  | some blk => rw [hq] at this; exact ⟨blk, rfl, by cases blk <;> first | trivial | cases this⟩
 have hm1 : ∃ blk, m'[id]? = some blk ∧ blk.live := by
  have : (invMem ints [0, id] (.frz []) m')[1]? = some (.sym 1 D') := by rw [hi]; rfl
  simp only [invMem, List.map_cons, List.getElem?_cons_succ, List.getElem?_cons_zero, Option.some.injEq] at this
  rw [List.getD_eq_getElem?_getD] at this
  cases hq : m'[id]? with
  | none => rw [hq] at this; cases this
  | some blk => rw [hq] at this; exact ⟨blk, rfl, by cases blk <;> first | trivial | cases this⟩
 obtain ⟨b0, q0, l0⟩ := hm0
 obtain ⟨b1, q1, l1⟩ := hm1
 have hρ0 : E'.ρ 0 = some (ap, op) := (hg.ρ 0 (Nat.zero_lt_succ 1)).trans h0
 have hsat : Sat (E'.ren m' [0, id] [] (fun _ => False)) (invMem ints [0, id] (.frz []) m') W' := Sat.inv rfl hs' (by simp; omega) (fun l e b hb _ => by cases e; cases hb) (fun es e => by cases e) (fun b hb => hb.elim) (fun b hb => by cases hb)
 rw [hi] at hsat
 refine ⟨⟨_, D', hD', hsat, ?_, fun a x e => ?_, fun e => (hd' e).elim, fun j hj => .inl (hg.F j (hF j hj))⟩, hg.os.trans h.os, hg.tape.trans h.tape, hg.output.trans h.output, Nat.le_trans h.size hg.size, fun j hj hne => (hold j hj hne).trans (h.old j hj hne), h.stays.trans hg.stays⟩
 ·simp [Env.ren, hρ0]
 ·have e' : E'.ρ id = some (a, x) := by simpa [Env.ren] using e
  rcases hg.newρ id a x b1 hid q1 l1 e' with h2 | h2
  ·exact Nat.le_trans h.size h2
  ·rcases foot a h2 with rfl | h3
   ·have := hs'.inj 0 id b0 b1 a op x q0 q1 l0 l1 hρ0 e'
    omega
   ·exact h3
/-- Where the loop ends. -/
theorem URel.fin {E : Env} {m : Mem} {w W : World} {ts : List A} {a : Act} {bp ap op : Nat} {k f t i l p s : Int} {b : Bool} {d : List Int} (hA : At E m w ts a) (hm : m[bp]? = some (.lit 9 [pkC k f t i l p s b (.g .nil)])) (hρ : E.ρ bp = some (ap, op))
  (h : URel w E.F ap op k f t i l p s b d W) {D : Nat} (hD : w.heap.size ≤ D) (hDd : W.heap[D]? = some (.deferred (some []))) :
  ∃ E2, At E2 (m.set bp (.lit 9 [pkC k f t i l p s b (.g (.rows 1 (nrow .i64 d)))])) W ts { a with defers := { target := .collected D, args := #[] } :: a.defers } ∧ Grow (fun _ => True) E m w E2 (m.set bp (.lit 9 [pkC k f t i l p s b (.g (.rows 1 (nrow .i64 d)))])) W := by
 have hs := hA.sat
 have hbl : bp < m.length := (List.getElem?_eq_some_iff.1 hm).1
 have hdis := hs.dis bp _ ap op hm trivial hρ
 obtain ⟨Er, D0, h1, h2, h3, h4, h5, h6⟩ := h.ex
 obtain rfl : D0 = nrow .i64 d := h1
 have get : ∀ {id : Nat} {blk : Blk}, (m.set bp (.lit 9 [pkC k f t i l p s b (.g (.rows 1 (nrow .i64 d)))]))[id]? = some blk → (id = bp ∧ blk = .lit 9 [pkC k f t i l p s b (.g (.rows 1 (nrow .i64 d)))]) ∨ (id ≠ bp ∧ m[id]? = some blk) := fun {id blk} hb => by
  rw [List.getElem?_set] at hb
  by_cases he : bp = id
  ·subst he
   simp [hbl] at hb
   exact .inl ⟨rfl, hb.symm⟩
  ·simp [he] at hb
   exact .inr ⟨fun e => he e.symm, hb⟩
 have live : ∀ {id : Nat} {blk : Blk}, (m.set bp (.lit 9 [pkC k f t i l p s b (.g (.rows 1 (nrow .i64 d)))]))[id]? = some blk → blk.live → ∃ blk0, m[id]? = some blk0 ∧ blk0.live ∧ blk.rows.length = blk0.rows.length ∧ blk.es = blk0.es := fun {id blk} hb hl => by
  rcases get hb with ⟨rfl, rfl⟩ | ⟨_, hb⟩
  ·exact ⟨_, hm, trivial, rfl, rfl⟩
  ·exact ⟨blk, hb, hl, rfl, rfl⟩
 have hF : ∀ j, E.F j ∨ E.B j → W.heap[j]? = w.heap[j]? := fun j hj => h.old j (hs.old j hj) (fun e => by subst e; exact hj.elim hdis.1 hdis.2)
 let E2 : Env := ⟨fun j => E.F j ∨ (w.heap.size ≤ j ∧ j < W.heap.size), E.B, E.ρ⟩
 have step : Step E m w E2 (m.set bp (.lit 9 [pkC k f t i l p s b (.g (.rows 1 (nrow .i64 d)))])) W := ⟨fun _ h => .inl h, fun _ h => h, fun _ _ => rfl, by simp, fun id blk' _ hb hl => live hb hl, hF, h.stays⟩
 have hrow : GRep E2.F W (.rows 1 (nrow .i64 d)) ((W.cell? (at_ ap (op + (0 * 9 + 8)))).getD undef) ∧ (W.cell? (at_ ap (op + (0 * 9 + 8)))).isSome = true := by
  have hr := h2.rep 0 _ rfl trivial
  rw [h3] at hr
  rcases hr with ⟨q, _⟩ | ⟨a_, base, e, g1, g2, g3⟩
  ·cases q
  cases e
  obtain ⟨u, g4, g5⟩ := (g3 0 _ rfl).2 8 (.row 1 1 none) rfl
  have hR := rowsOf_readsT (I := ints) rfl h2 (es := 1) (c := .row 1 1 none) (l := nrow .i64 d) (v := u) rfl (.inr g5)
  have hR2 := hR.mono (T' := E2.F) (fun j ⟨blk, x, q1, q2, q3⟩ => by
   have hlt : j < W.heap.size := by
    rcases h2.rep 1 _ rfl trivial with ⟨r1, _⟩ | ⟨a2, base2, r1, _, r3, _⟩
    ·rw [q3] at r1; cases r1
    ·rw [q3] at r1; cases r1; exact r3
   exact .inr ⟨h4 j x q3, hlt⟩)
  obtain ⟨A_, c', hR1, hR3, hR4, hR5⟩ := hR2
  have he : (W.cell? (at_ ap (op + (0 * 9 + 8)))) = some u := g4
  rw [he]
  refine ⟨?_, rfl⟩
  show GRep E2.F W _ u
  rw [hR1]
  refine .rows (fun i j => match A_ with | some x => (W.cell? (at_ x.block (x.off + (i * 1 + j)))).getD undef | none => undef) hR3 ⟨hR4, fun i r j x hi hj => ?_, fun hne => ?_⟩ (fun i r j x hi hj => ?_)
  ·rcases hR5 with q | ⟨a_, off, q1, q2, q3⟩
   ·rw [q] at hi; cases hi
   ·obtain ⟨u, q4, q5⟩ := q3 i r j x hi hj
    subst q1
    exact ⟨a_, off, rfl, q2, by show W.cell? _ = some ((W.cell? (at_ a_ (off + (i * 1 + j)))).getD undef); rw [q4]; rfl⟩
  ·rcases hR5 with q | ⟨a_, off, q1, q2, q3⟩
   ·exact absurd q hne
   ·exact ⟨a_, off, q1, q2⟩
  ·rcases hR5 with q | ⟨a_, off, q1, q2, q3⟩
   ·rw [q] at hi; cases hi
   ·obtain ⟨u, q4, q5⟩ := q3 i r j x hi hj
    subst q1
    show GRep E2.F W x ((W.cell? (at_ a_ (off + (i * 1 + j)))).getD undef)
    rw [q4]
    obtain ⟨y, rfl⟩ := nrow_get .i64 d i r hi
    match j, hj with
    | 0, hj => cases hj; exact CRep.flat (E := Er) (m := []) (w := W) (E' := E2) (m' := []) (w' := W) (x := .g (.int .i64 (.sym y))) rfl q5
    | n + 1, hj => simp at hj
 have sat : Sat E2 (m.set bp (.lit 9 [pkC k f t i l p s b (.g (.rows 1 (nrow .i64 d)))])) W := by
  refine ⟨fun id blk hb hl => ?_, fun i j bi bj a x y hi hj li lj ei ej => ?_, fun i bi a x hi li ei => ?_, fun j hj => ?_, fun id ag l hb => ?_⟩
  ·rcases get hb with ⟨rfl, rfl⟩ | ⟨hne, hb⟩
   ·have hr := h2.rep 0 _ rfl trivial
    rw [h3] at hr
    rcases hr with ⟨q, _⟩ | ⟨a_, base, e, g1, g2, g3⟩
    ·cases q
    cases e
    refine .inr ⟨ap, op, hρ, g1, g2, fun i row hi => ?_⟩
    match i, hi with
    | 0, hi =>
     cases hi
     refine ⟨rfl, fun j x hj => ?_⟩
     rcases pkC_get (.row 1 1 none) hj with ⟨rfl, rfl⟩ | ⟨_, hf, hj'⟩
     ·obtain ⟨u, hu⟩ := Option.isSome_iff_exists.1 hrow.2
      refine ⟨u, hu, ?_⟩
      have := hrow.1
      rw [hu] at this
      exact this
     ·obtain ⟨u, q1, q2⟩ := (g3 0 _ rfl).2 j x hj'
      exact ⟨u, q1, q2.flat hf⟩
    | n + 1, hi => simp [Blk.rows] at hi
   ·have hr := hs.rep id blk hb
    rcases hr hl with h1 | ⟨a_, base, e, g1, g2, g3⟩
    ·exact .inl h1
    ·have hne' : a_ ≠ ap := fun e2 => by
      subst e2
      exact hne (hs.inj id bp blk _ a_ base op hb hm hl trivial e hρ)
     have h7 := BRep.step_rep step (h.old a_ g2 hne') h.size (fun _ => .inr ⟨a_, base, rfl, g1, g2, g3⟩) hl
     rw [← e] at h7
     exact h7
  ·obtain ⟨b1, q1, l1, _⟩ := live hi li
   obtain ⟨b2, q2, l2, _⟩ := live hj lj
   exact hs.inj i j b1 b2 a x y q1 q2 l1 l2 ei ej
  ·obtain ⟨b1, q1, l1, _⟩ := live hi li
   obtain ⟨d1, d2⟩ := hs.dis i b1 a x q1 l1 ei
   have hlt : a < w.heap.size := by
    rcases hs.rep i b1 q1 l1 with ⟨r1, _⟩ | ⟨a2, base2, r1, _, r3, _⟩
    ·rw [show E.ρ i = some (a, x) from ei] at r1; cases r1
    ·rw [show E.ρ i = some (a, x) from ei] at r1; cases r1; exact r3
   exact ⟨fun h => h.elim d1 (fun h => by omega), d2⟩
  ·rcases hj with (hj | hj) | hj
   ·exact Nat.lt_of_lt_of_le (hs.old j (.inl hj)) h.size
   ·exact hj.2
   ·exact Nat.lt_of_lt_of_le (hs.old j (.inr hj)) h.size
  ·rcases get hb with ⟨rfl, e⟩ | ⟨hne, hb⟩
   ·cases e
   ·obtain ⟨a1, e1, l1, m1⟩ := hs.maps id ag l hb
    have hne' : a1 ≠ ap := fun e2 => by
     subst e2
     exact hne (hs.inj id bp _ _ a1 0 op hb hm trivial trivial e1 hρ)
    exact ⟨a1, e1, Nat.lt_of_lt_of_le l1 h.size, MapAt.step (fun _ h => .inl h) (fun j hj => hF j (.inl hj)) (h.old a1 l1 hne') m1⟩
 obtain ⟨Ds, n1, d1, e1⟩ := hA.defers
 refine ⟨E2, ⟨sat, hA.ts.step step, D :: Ds, List.nodup_cons.2 ⟨fun hm => ?_, n1⟩, ?_, fun D' hD' => ?_⟩, ?_⟩
 ·have := hs.old D (.inl (e1 D hm).1)
  omega
 ·show _ :: a.defers = _
  rw [d1]
  rfl
 ·rcases List.mem_cons.1 hD' with rfl | hD'
  ·exact ⟨.inr ⟨hD, (Array.getElem?_eq_some_iff.1 hDd).1⟩, hDd⟩
  ·exact ⟨.inl (e1 D' hD').1, (hF D' (.inl (e1 D' hD').1)).trans (e1 D' hD').2⟩
 ·exact { step with
   B' := fun _ h => h, os := h.os, tape := h.tape, output := h.output, size := h.size
   block := fun j hj hn => h.old j hj (fun e => by subst e; exact hn ⟨bp, _, op, hm, trivial, trivial, hρ⟩)
   newF := fun j hj => hj.imp (fun h => h) (fun h => .inl h.1)
   newρ := fun id a x blk h1 h2 => by
    rw [List.getElem?_eq_none (by simpa using h1)] at h2
    cases h2 }
end Go.Proofs.Ytofdnnjkfpomcaa.E

/- The loop of Unpack: what it does, all of it. -/
namespace Go.Proofs.Ytofdnnjkfpomcaa.E
open Go Go.RowKit
set_option linter.unusedVariables false
set_option maxRecDepth 100000

def rfAssign : Code → Code
 | .rangeFunc _ _ x _ => x
 | _ => .skip
theorem GRep.part {F F' : Nat → Prop} {w w' : World} {L : List (List G)} {A : Nat} {off c m : Nat} (h : GRep F w (.rows 1 L) (.slice (some (at_ A off)) L.length c)) (hm : m + 8 ≤ L.length) (hF : ∀ j, F j → F' j) (hw : ∀ j, F j → w'.heap[j]? = w.heap[j]?) :
  GRep F' w' (.rows 1 ((L.take (m + 8)).drop m)) (.slice (some (at_ A (off + m))) 8 8) := by
 have h' := h
 generalize hv : Value.slice (some (at_ A off)) L.length c = v at h'
 cases h' with
 | rows u g1 g2 g3 =>
 rename_i A_ c'
 cases hv
 have h8 : ((L.take (m + 8)).drop m).length = 8 := by simp; omega
 have h9 := g2.ext (p := m) (q := m + 8) (c := c) hm g1
 rw [if_neg (by omega)] at h9
 have h10 : (some (at_ A off)).map (·.add (m * 1)) = some (at_ A (off + m)) := by simp [at_add]
 rw [h10] at h9
 have := GRep.rows (F := F') (w := w') (c := 8) (fun i j => u (m + i) j) (by omega) (h9.step hF hw) (fun i r j x hi hj => GRep.step hF hw (g3 _ r j x (ext_get hi).2 hj))
 rw [h8] at this
 exact this
theorem isB.part {L : List (List G)} {bs : List (BitVec 8)} (h : isB L bs) (m : Nat) : isB ((L.take (m + 8)).drop m) ((bs.take (m + 8)).drop m) := by
 unfold isB at h ⊢
 rw [h]
 simp [nrow]
set_option maxHeartbeats 1000000 in
theorem unpack_loop {P : Program} (hp : P = Try.prog) (L : List (List G)) (bs : List (BitVec 8)) (K : Nat) (hL : isB L bs) (hlen : bs.length = 8 * K) (hK : K ≤ 1000) {ts : List A} {m : Mem} {bp b1 b2 : Nat} {k f t i l p s : Int} {b : Bool} (htl : ts.length = 100)
  (h76 : ts[76]? = some (.one (.c (.fn 79 [(b1, 1, 0), (b2, 1, 0)])))) (h6 : ts[6]? = some (.one (.c (.ptr bp (.lit 0) 9 0)))) (hmp : m[bp]? = some (.lit 9 [pkC k f t i l p s b (.g .nil)]))
  (hm1 : m[b1]? = some (.lit 1 [[.g (.rows 1 L)]])) (hm2 : m[b2]? = some (.lit 1 [[.g (.int .i64 (.lit 8))]])) (hne1 : bp ≠ b1) (hne2 : bp ≠ b2) :
  RSpec P (rfOf P 56) ts m (fun ts' m' => ts' = ts ∧ m' = m.set bp (.lit 9 [pkC k f t i l p s b (.g (.rows 1 (nrow .i64 (wordsAt K bs))))])) := by
 intro E w a Q hA hQ
 have hs := hA.sat
 have hLl : L.length = 8 * K := by rw [hL.len, hlen]
 obtain ⟨ap, op, eρ, hap⟩ : ∃ ap op, E.ρ bp = some (ap, op) ∧ ap < w.heap.size := by
  rcases hs.rep bp _ hmp trivial with ⟨_, h⟩ | ⟨a_, base, e, _, h, _⟩
  ·simp [Blk.rows] at h
  ·exact ⟨a_, base, e, h⟩
 obtain ⟨a1, o1, u1, eρ1, ha1, hc1, hu1⟩ : ∃ a1 o1 u1, E.ρ b1 = some (a1, o1) ∧ a1 < w.heap.size ∧ w.cell? (at_ a1 (o1 + (0 * 1 + 0))) = some u1 ∧ GRep E.F w (.rows 1 L) u1 := by
  rcases hs.rep b1 _ hm1 trivial with ⟨_, h⟩ | ⟨a_, base, e, _, h, h3⟩
  ·simp [Blk.rows] at h
  ·obtain ⟨u, q1, q2⟩ := (h3 0 _ rfl).2 0 _ rfl
   exact ⟨a_, base, u, e, h, q1, q2⟩
 obtain ⟨a2, o2, eρ2, ha2, hc2⟩ : ∃ a2 o2, E.ρ b2 = some (a2, o2) ∧ a2 < w.heap.size ∧ w.cell? (at_ a2 (o2 + (0 * 1 + 0))) = some (.int .i64 8) := by
  rcases hs.rep b2 _ hm2 trivial with ⟨_, h⟩ | ⟨a_, base, e, _, h, h3⟩
  ·simp [Blk.rows] at h
  ·obtain ⟨u, q1, q2⟩ := (h3 0 _ rfl).2 0 _ rfl
   have : u = .int .i64 8 := by
    have q2 : GRep E.F w (.int .i64 (.lit 8)) u := q2
    cases q2
    rfl
   subst this
   exact ⟨a_, base, e, h, q1⟩
 have hn1 : a1 ≠ ap := fun e => hne1 (hs.inj bp b1 _ _ ap op o1 hmp hm1 trivial trivial eρ (e ▸ eρ1))
 have hn2 : a2 ≠ ap := fun e => hne2 (hs.inj bp b2 _ _ ap op o2 hmp hm2 trivial trivial eρ (e ▸ eρ2))
 obtain ⟨Ao, c, rfl, hcl⟩ : ∃ Ao c, u1 = .slice Ao L.length c ∧ 8 * K ≤ c := by
  cases hu1 with
  | rows u g1 g2 g3 =>
   rename_i Ao c
   exact ⟨Ao, c, rfl, hLl ▸ g1⟩
 obtain ⟨A0, off, hA0⟩ : ∃ A0 off, 0 < K → Ao = some (at_ A0 off) := by
  have hu1' := hu1
  generalize hv : Value.slice Ao L.length c = v at hu1'
  cases hu1' with
  | rows u g1 g2 g3 =>
   cases hv
   by_cases h0 : 0 < K
   ·obtain ⟨a_, off, e, _⟩ := g2.some_ (fun e => by rw [e] at hLl; simp at hLl; omega)
    exact ⟨a_, off, fun _ => e⟩
   ·exact ⟨0, 0, fun h => absurd h h0⟩
 obtain ⟨us, e76, hus⟩ : ∃ us : Array Value, a.tmps.getD 76 undef = .func (.func 79) #[] us ∧ us = #[.pointer (some (at_ a1 (o1 + (0 * 1 + 0)))), .pointer (some (at_ a2 (o2 + (0 * 1 + 0))))] := by
  rcases hA.ts.2 76 _ h76 with h | ⟨us, q1, q2, q3⟩
  ·cases h
  ·refine ⟨us, q1, ?_⟩
   obtain ⟨_, x1, y1, r1, r2⟩ := q3 0 b1 1 0 rfl
   obtain ⟨_, x2, y2, r3, r4⟩ := q3 1 b2 1 0 rfl
   rw [eρ1] at r1; cases r1
   rw [eρ2] at r3; cases r3
   apply Array.ext_getElem?
   intro j
   match j with
   | 0 => rw [r2]; rfl
   | 1 => rw [r4]; rfl
   | n + 2 => rw [Array.getElem?_eq_none (by rw [q2]; simp), Array.getElem?_eq_none (by simp)]
 subst hus
 rw [hLl] at hc1
 have e6 : a.tmps.getD 6 undef = .pointer (some (at_ ap (op + (0 * 9 + 0)))) := by
  rcases hA.ts.2 6 _ h6 with h | ⟨_, x, y, q1, q2⟩
  ·cases h
  ·rw [eρ] at q1; cases q1; exact q2
 have hsz : a.tmps.size = 100 := by rw [hA.ts.1, htl]
 have hcode : rfOf P 56 = .rangeFunc (.tmp 76) #[77] (rfAssign (rfOf P 56)) (rfBody (rfOf P 56)) := by rw [hp]; kernel_rfl
 obtain ⟨Kp, hKp⟩ : ∃ Kp : World → World → Prop, Kp = fun W W' => ∀ x : Addr, x.block = a1 ∨ x.block = a2 → W'.cell? x = W.cell? x := ⟨_, rfl⟩
 rw [hcode]
 refine (wpIn_wide (n := 5)).1 ?_
 refine wpIn_rangeFunc_ownG (n := 5) rfl (by decide) (gf := 79) (lb := #[.pointer (some (at_ a1 (o1 + (0 * 1 + 0)))), .pointer (some (at_ a2 (o2 + (0 * 1 + 0))))]) e76 trivial (by rw [hp]; exact enters_of Try.func79 (by kernel_rfl) rfl)
  (encs := fun x : Nat => #[.slice (some ⟨A0, off + 8 * min x (K - 1), none⟩) 8 8]) (Kp := Kp) (S := fun ys => ys = List.range K) (Sp := fun _ => True) (N := K) (w0 := w) ?seq ?kt ?kb (Below.refl _ _) (fun _ => rfl)
  (fun pre W => URel w E.F ap op k f t i l p s b (pre.map (wordAt K bs)) W) (fun _ _ _ => False) (URel.own _) (fun _ _ _ _ _ hs _ _ => hs) (URel.start hs hmp eρ)
  (fun x => { tmps := (a.tmps.setIfInBounds 77 (.slice (some ⟨A0, off + 8 * min x (K - 1), none⟩) 8 8)).setIfInBounds 7 (.slice (some ⟨A0, off + 8 * min x (K - 1), none⟩) 8 8), defers := [] }) ?assign ?body ?done ?stop
 case seq =>
  intro l0 J Jx W hW hJ hJx hY h0
  rw [hp] at hY ⊢
  exact chunk1_in 4 l0 a1 _ a2 _ A0 off K c Ao hA0 hcl (by omega) Kp (fun W W' h => by rw [hKp] at h; exact ⟨h _ (.inl rfl), h _ (.inr rfl)⟩) J Jx hY W hJ ((hW.cell (p := at_ a1 (o1 + (0 * 1 + 0))) ha1).trans hc1) ((hW.cell (p := at_ a2 (o2 + (0 * 1 + 0))) ha2).trans hc2) h0
 case kt =>
  intro A B C h1 h2
  rw [hKp] at h1 h2 ⊢
  exact fun x hx => (h2 x hx).trans (h1 x hx)
 case kb =>
  intro W l0 o o' hl ho _ _
  rw [hKp]
  exact fun x hx => World.cell?_of_block (World.putObj_heap_other (fun e => by rw [e] at hx; omega))
 case assign =>
  intro l0 x W K0 hK0
  have e1 : rfAssign (rfOf P 56) = .region 6 #[{ (bodyOps (.block 0 (rfAssign (rfOf P 56))))[0]! with dst := some 7, op := .assign (.tmp 77), guard := none }] false := by rw [hp]; kernel_rfl
  rw [e1]
  generalize (bodyOps (.block 0 (rfAssign (rfOf P 56))))[0]! = o0
  refine wpIn_region_list (wpListIn_plain rfl fun K9 hK' => ?_)
  unfold Oper.wpIn
  refine ⟨fun _ _ => trivial, ?_⟩
  rw [show (Fence.wide.inRound l0).round = some l0 from rfl, Oper.semAt_some l0 _ _ (fun c hc => by cases hc)]
  refine hK' _ _ ?_
  have e2 : ∀ v : Value, (a.tmps.setIfInBounds 77 v).getD 77 undef = v := fun v => by simp [Array.getD_eq_getD_getElem?, hsz]
  generalize Value.slice (some ⟨A0, off + 8 * min x (K - 1), none⟩) 8 8 = v at hK0 ⊢
  generalize hT : Array.foldl _ a.tmps (#[77].zip #[v]) = T
  have hT2 : T = a.tmps.setIfInBounds 77 v := by rw [← hT]; simp
  subst hT2
  show K0 { tmps := (a.tmps.setIfInBounds 77 v).setIfInBounds 7 ((a.tmps.setIfInBounds 77 v).getD 77 undef), defers := [] } W
  rw [e2]
  exact hK0
 case body =>
  intro l0 pre x W hU hlt
  obtain ⟨Er, D, hD, hs2, h0, h1, h3, hF⟩ := hU.ex
  have hF2 : ∀ j, E.F j → W.heap[j]? = w.heap[j]? := fun j hj => hU.old j (hs.old j (.inl hj)) (fun e => by subst e; exact (hs.dis bp _ _ op hmp trivial eρ).1 hj)
  have hm8 : 8 * min x (K - 1) + 8 ≤ L.length := by omega
  rw [hA0 (by omega)] at hu1
  have hv := hu1.part hm8 hF hF2
  have hC := hL.part (8 * min x (K - 1))
  have hw : wordAt K bs x = numB ((bs.take (8 * min x (K - 1) + 8)).drop (8 * min x (K - 1))) := rfl
  generalize hmm : 8 * min x (K - 1) = m8 at hv hC hw hm8
  generalize hva : Value.slice (some ⟨A0, off + m8, none⟩) 8 8 = v at *
  have hv : GRep Er.F W (.rows 1 ((L.take (m8 + 8)).drop m8)) v := by rw [← hva]; exact hv
  generalize hCC : (L.take (m8 + 8)).drop m8 = CC at hv hC
  have hcl8 : ((bs.take (m8 + 8)).drop m8).length ≤ 1000000000 := by simp; omega
  generalize hbb : (bs.take (m8 + 8)).drop m8 = cs at hC hw hcl8
  have hAr : At Er (mr k f t i l p s b D) W (fr 100 [(6, .one (.c (.ptr 0 (.lit 0) 9 0))), (7, .one (.c (.g (.rows 1 CC))))]) { tmps := (a.tmps.setIfInBounds 77 v).setIfInBounds 7 v, defers := [] } := by
   refine ⟨hs2, ⟨by simp [fr, hsz], fun q y hq => ?_⟩, .nil rfl⟩
   show ARep Er _ W y (((a.tmps.setIfInBounds 77 v).setIfInBounds 7 v).getD q undef)
   simp only [fr, List.foldl_cons, List.foldl_nil] at hq
   by_cases q7 : q = 7
   ·subst q7
    rw [List.getElem?_set_self (by simp)] at hq
    cases hq
    rw [show ((a.tmps.setIfInBounds 77 v).setIfInBounds 7 v).getD 7 undef = v by simp [Array.getD_eq_getD_getElem?, hsz]]
    exact .inr hv
   ·rw [List.getElem?_set_ne (fun e => q7 e.symm)] at hq
    by_cases q6 : q = 6
    ·subst q6
     rw [List.getElem?_set_self (by simp)] at hq
     cases hq
     rw [show ((a.tmps.setIfInBounds 77 v).setIfInBounds 7 v).getD 6 undef = a.tmps.getD 6 undef by simp [Array.getD_eq_getD_getElem?, Array.getElem?_setIfInBounds_ne], e6]
     exact .inr ⟨by show 0 < 2; decide, ap, op, h0, rfl⟩
    ·rw [List.getElem?_set_ne (fun e => q6 e.symm), List.getElem?_replicate] at hq
     split at hq
     ·cases hq; exact any_rep _
     ·cases hq
  refine body_run hp k f t i l p s b D (pre.map (wordAt K bs)) hD (by rw [List.length_map]; omega) CC cs hC hcl8 (fun ⟨a, w, h⟩ => h) (fun c a w h => h) hAr rfl (fun E' m' W' a' id D' q1 q2 q3 q4 q5 => ?_)
  have foot : ∀ j, Foot (fun _ => True) Er (mr k f t i l p s b D) j → j = ap ∨ (w.heap.size ≤ j ∧ ∃ o, W.heap[j]? = some o ∧ o.isCells = true) := by
   rintro j ⟨id, blk, x, r1, _, _, r4⟩
   match id, r1 with
   | 0, _ => rw [h0] at r4; cases r4; exact .inl rfl
   | 1, _ =>
    refine .inr ⟨h1 _ _ r4, ?_⟩
    cases hpre : pre with
    | nil => rw [hpre] at h3; rw [h3 rfl] at r4; cases r4
    | cons y pre' =>
     rcases hs2.rep 1 _ rfl trivial with ⟨g1, _⟩ | ⟨a3, base, g1, g2, g3, g4⟩
     ·rw [r4] at g1; cases g1
     ·rw [r4] at g1; cases g1
      rw [hpre] at hD
      have : D[0]? = some [.int .i64 (.sym (wordAt K bs y))] := by rw [hD.get]; rfl
      obtain ⟨u, g5, _⟩ := (g4 0 [.g (.int .i64 (.sym (wordAt K bs y)))] (by show (D.map fun r => r.map C.g)[0]? = _; rw [List.getElem?_map, this]; rfl)).2 0 _ rfl
      exact cells_of_cell g5
   | n + 2, r1 => simp at r1
  refine ⟨⟨q5.size, fun j o hj ho hco => ?_⟩, ?_, ?_⟩
  ·refine (q5.block j (Array.getElem?_eq_some_iff.1 ho).1 (fun hf => ?_)).trans ho
   rcases foot j hf with rfl | ⟨_, o', ho', hc'⟩
   ·omega
   ·rw [ho] at ho'; cases ho'; rw [hco] at hc'; cases hc'
  ·rw [hKp]
   intro y hy
   refine World.cell?_of_block (q5.block y.block ?_ (fun hf => ?_))
   ·rcases hy with h | h <;> rw [h] <;> exact Nat.lt_of_lt_of_le (by assumption) hU.size
   ·rcases foot _ hf with h | ⟨h, _⟩
    ·rcases hy with h' | h' <;> rw [h'] at h
     ·exact hn1 h
     ·exact hn2 h
    ·rcases hy with h' | h' <;> rw [h'] at h <;> omega
  ·have : (pre ++ [x]).map (wordAt K bs) = pre.map (wordAt K bs) ++ [numB cs] := by rw [List.map_append, ← hw]; rfl
   show URel w E.F ap op k f t i l p s b ((pre ++ [x]).map (wordAt K bs)) W'
   rw [this]
   exact hU.step hap hs2 h0 h1 hF (by simp) q1 q2 q3 q4 q5
 case done =>
  rintro D ys W hD rfl hU hDd
  obtain ⟨E2, h1, h2⟩ := URel.fin hA hmp eρ hU hD hDd
  refine hQ E2 _ W ts _ ⟨rfl, rfl⟩ h1 h2 (fun D' hD' => ?_)
  rcases List.mem_cons.1 hD' with h | h
  ·cases h; exact .inr hD
  ·exact .inl h
 case stop =>
  rintro D c pre W _ _ h _
  exact h.elim
end Go.Proofs.Ytofdnnjkfpomcaa.E

/- Unpack: the packet of bytes. -/
namespace Go.Proofs.Ytofdnnjkfpomcaa.E
open Go
set_option linter.unusedVariables false
set_option maxRecDepth 100000

/-- A byte, as a number. -/
def hb (x : List (BitVec 8)) (i : Nat) : Int := w8 (x.getD i 0#8)
/-- The packet that the bytes say, right or not. -/
def pkOf (x : List (BitVec 8)) : PK := ⟨hb x 0, hb x 1, hb x 2, rBin .or .i64 (rBin .shl .i64 (hb x 3) 8) (hb x 4), hb x 5, rBin .sub .i64 (hb x 6) 1, hb x 7, rCmp .eql (hb x 8) 1, wordsAt (x.getD 9 0#8).toNat (x.drop 10)⟩
def opened (bs : List (BitVec 8)) : List (BitVec 8) := bs.take (bs.length - 2)
def shapeB (x : List (BitVec 8)) : Bool := decide (10 ≤ x.length) && decide (x.length = 10 + 8 * (x.getD 9 0#8).toNat)
/-- Are bytes a packet's? -/
def isPkB (bs : List (BitVec 8)) : Bool := decide (2 ≤ bs.length) && isSeal bs && shapeB (opened bs) && checkB (pkOf (opened bs)) && (sealB (packB (pkOf (opened bs))) == bs)
theorem isB.at {l : List (List G)} {bs : List (BitVec 8)} (h : isB l bs) {i : Nat} (hi : i < bs.length) : l[i]? = some [.int .u8 (.sym (hb bs i))] := by
 rw [h.get (List.getElem?_eq_getElem hi)]
 unfold hb
 rw [List.getD_eq_getElem?_getD, List.getElem?_eq_getElem hi]
 rfl
/-- Nothing, told in known numbers. -/
def noughtL : V1 := .agg [.g (.int .i64 (.lit 0)), .g (.int .i64 (.lit 0)), .g (.int .i64 (.lit 0)), .g (.int .i64 (.lit 0)), .g (.int .i64 (.lit 0)), .g (.int .i64 (.lit 0)), .g (.int .i64 (.lit 0)), .g (.bool (.lit false)), .g .nil]
theorem hb_in (x : List (BitVec 8)) (i : Nat) : 0 ≤ hb x i ∧ hb x i ≤ 255 := by
 have := (x.getD i 0#8).isLt
 unfold hb w8
 omega
theorem hb_conv (x : List (BitVec 8)) (i : Nat) : IntKind.i64.wrap (hb x i) = hb x i := by
 have := (x.getD i 0#8).isLt
 unfold hb w8
 rw [wrap_in] <;> omega
theorem checkB_in {q : PK} (h : checkB q = true) : (1 ≤ q.k ∧ q.k < 10) ∧ (0 ≤ q.f ∧ q.f < 6) ∧ (0 ≤ q.t ∧ q.t < 6) ∧ (0 ≤ q.i ∧ q.i < 4096) ∧ (0 ≤ q.l ∧ q.l < 8) ∧ (-1 ≤ q.p ∧ q.p < 6) ∧ (0 ≤ q.s ∧ q.s < 3) ∧ q.d.length ≤ 4 := by
 unfold checkB belB at h
 simp only [Bool.and_eq_true, decide_eq_true_eq] at h
 omega
section
variable {P : Program} (hp : P = Try.prog)
include hp
set_option maxHeartbeats 8000000 in
theorem unpack (l : List (List G)) (bs : List (BitVec 8)) (hl : isB l bs) (hn : bs.length ≤ 140737488351250) : LValid P 56 [.c (.bor 1 l)] []
  (fun v m1 => (isPkB bs = true ∧ ∃ (q : PK) (D : List (List G)), q = pkOf (opened bs) ∧ isL .i64 D q.d ∧ v = .tup [q.told (.g (.rows 1 D)), gi .i64 0] ∧ m1 = []) ∨ (isPkB bs = false ∧ v = .tup [PK.nought.told (.g .nil), gi .i64 2] ∧ m1 = [])) := by
 refine LValid.syv (R := fun v m1 => (isPkB bs = true ∧ ∃ (q : PK) (D : List (List G)), q = pkOf (opened bs) ∧ isL .i64 D q.d ∧ v = .tup [q.told (.g (.rows 1 D)), .c (.g (.int .i64 (.lit 0)))] ∧ m1 = []) ∨ (isPkB bs = false ∧ v = .tup [noughtL, .c (.g (.int .i64 (.lit 2)))] ∧ m1 = [])) ?_
  (fun v m1 h => h.imp (fun ⟨h1, q, D, h2, h3, h4, h5⟩ => ⟨h1, q, D, h2, h3, by rw [h4]; rfl, h5⟩) (fun ⟨h1, h2, h3⟩ => ⟨h1, by rw [h2]; rfl, h3⟩))
 obtain ⟨I, hI⟩ := ref
 obtain ⟨rf, hrf⟩ : ∃ rf, rf = rfOf P 56 := ⟨_, rfl⟩
 refine fn_sim hI (mo hp) (cc hp (c56 rf (by rw [hrf, hp]))) fun Post hP => ?_
 cbv
 refine .go [] [] [] (open_ hp l bs hl hn) rfl rfl rfl rfl rfl rfl ?_
 rintro v m1 (⟨h1, h2, l', hl', rfl, rfl⟩ | ⟨h1, rfl, rfl⟩)
 ·have hx : isB l' (opened bs) := hl'
  have hlx : I.len l' = (opened bs).length := by rw [hI]; exact hx.len
  have hlen : (opened bs).length ≤ 140737488351250 := by unfold opened; rw [List.length_take]; omega
  have hpk : isPkB bs = (shapeB (opened bs) && checkB (pkOf (opened bs)) && (sealB (packB (pkOf (opened bs))) == bs)) := by unfold isPkB; rw [h2, decide_eq_true h1]; simp
  generalize ho : opened bs = x at hx hlx hlen hpk
  have c1 : (I.cmp .lss (I.ofNat (I.len l')) 10 = true → shapeB x = false) ∧ (I.cmp .lss (I.ofNat (I.len l')) 10 = false → 10 ≤ x.length) := by
   rw [hlx, hI]
   unfold shapeB
   simp only [ints, rCmp, decide_eq_true_eq, decide_eq_false_iff_not]
   refine ⟨fun h => by rw [decide_eq_false (by omega)]; rfl, fun h => by omega⟩
  clear h1 h2 hl' hn
  cbv
  refine br_f (show I.not true = false from by rw [hI]; rfl) ?_
  cbv
  refine .br (fun g1 => ?_) (fun g1 => ?_)
  ·have s1 := c1.1 g1
   clear c1 g1
   cbv
   exact hP _ _ [] [] _ _ .nil rfl rfl rfl rfl rfl (.inr ⟨by rw [hpk, s1]; rfl, rfl, rfl⟩)
  ·have s1 := c1.2 g1
   clear c1 g1
   have at_ : ∀ i, i < 10 → ∃ z, hb x i = z ∧ l'[i]? = some [.int .u8 (.sym z)] := fun i hi => ⟨_, rfl, hx.at (by omega)⟩
   obtain ⟨z0, e0, r0⟩ := at_ 0 (by decide)
   obtain ⟨z1, e1, r1⟩ := at_ 1 (by decide)
   obtain ⟨z2, e2, r2⟩ := at_ 2 (by decide)
   obtain ⟨z3, e3, r3⟩ := at_ 3 (by decide)
   obtain ⟨z4, e4, r4⟩ := at_ 4 (by decide)
   obtain ⟨z5, e5, r5⟩ := at_ 5 (by decide)
   obtain ⟨z6, e6, r6⟩ := at_ 6 (by decide)
   obtain ⟨z7, e7, r7⟩ := at_ 7 (by decide)
   obtain ⟨z8, e8, r8⟩ := at_ 8 (by decide)
   obtain ⟨z9, e9, r9⟩ := at_ 9 (by decide)
   clear at_
   have hlt : ∀ i, i < 10 → i < I.len l' := fun i hi => by rw [hlx]; omega
   have c2 : (I.cmp .neq (I.ofNat (I.len l')) (I.bin .add .i64 10 (I.bin .mul .i64 8 (I.conv .i64 z9))) = true → shapeB x = false) ∧ (I.cmp .neq (I.ofNat (I.len l')) (I.bin .add .i64 10 (I.bin .mul .i64 8 (I.conv .i64 z9))) = false → shapeB x = true ∧ x.length = 10 + 8 * (x.getD 9 0#8).toNat) := by
    rw [hlx, hI, ← e9]
    have f1 := hb_in x 9
    have f2 : hb x 9 = ((x.getD 9 0#8).toNat : Int) := rfl
    have f3 : rBin .mul .i64 8 (hb x 9) = 8 * hb x 9 := by show IntKind.i64.wrap (8 * hb x 9) = _; rw [wrap_in] <;> omega
    have f4 : rBin .add .i64 10 (8 * hb x 9) = 10 + 8 * hb x 9 := by show IntKind.i64.wrap (10 + 8 * hb x 9) = _; rw [wrap_in] <;> omega
    show (rCmp .neq (x.length : Int) (rBin .add .i64 10 (rBin .mul .i64 8 (IntKind.i64.wrap (hb x 9)))) = true → _) ∧ _
    show _ ∧ (rCmp .neq (x.length : Int) (rBin .add .i64 10 (rBin .mul .i64 8 (IntKind.i64.wrap (hb x 9)))) = false → _)
    rw [hb_conv, f3, f4, f2]
    unfold shapeB
    generalize (x.getD 9 0#8).toNat = n9
    refine ⟨fun h => ?_, fun h => ?_⟩
    ·have : (x.length : Int) ≠ 10 + 8 * (n9 : Int) := by simpa [rCmp] using h
     rw [decide_eq_false (p := x.length = 10 + 8 * n9) (by omega)]
     simp
    ·have : (x.length : Int) = 10 + 8 * (n9 : Int) := by simpa [rCmp] using h
     have : x.length = 10 + 8 * n9 := by omega
     exact ⟨by rw [decide_eq_true s1, decide_eq_true this]; rfl, this⟩
   cbv
   refine .idx 9 rfl (hlt 9 (by decide)) (.nth _ r9 ?_)
   cbv
   refine .br (fun g2 => ?_) (fun g2 => ?_)
   ·have s2 := c2.1 g2
    clear c2 g2
    cbv
    exact hP _ _ [] [] _ _ .nil rfl rfl rfl rfl rfl (.inr ⟨by rw [hpk, s2]; rfl, rfl, rfl⟩)
   ·obtain ⟨s2, s3⟩ := c2.2 g2
    clear c2 g2
    rw [s2] at hpk
    cbv
    refine .drawn [] ?_
    cbv
    refine .idx 0 rfl (hlt 0 (by decide)) (.nth _ r0 ?_)
    cbv
    refine .idx 1 rfl (hlt 1 (by decide)) (.nth _ r1 ?_)
    cbv
    refine .idx 2 rfl (hlt 2 (by decide)) (.nth _ r2 ?_)
    cbv
    refine .idx 3 rfl (hlt 3 (by decide)) (.nth _ r3 ?_)
    cbv
    refine .idx 4 rfl (hlt 4 (by decide)) (.nth _ r4 ?_)
    cbv
    refine .idx 5 rfl (hlt 5 (by decide)) (.nth _ r5 ?_)
    cbv
    refine .idx 6 rfl (hlt 6 (by decide)) (.nth _ r6 ?_)
    cbv
    refine .idx 7 rfl (hlt 7 (by decide)) (.nth _ r7 ?_)
    cbv
    refine .idx 8 rfl (hlt 8 (by decide)) (.nth _ r8 ?_)
    cbv
    have hlB : isB (I.ext l' 10 (I.add 10 (I.sub (I.len l') 10))) (x.drop 10) := by
     have h9 : 10 + (l'.length - 10) = l'.length := by have := hx.len; omega
     unfold isB at hx ⊢
     rw [hI]
     show (l'.take (10 + (l'.length - 10))).drop 10 = _
     rw [h9, List.take_length, hx]
     simp [nrow]
    refine .rng 10 (I.len l') rfl rfl (by rw [hlx]; omega) (Nat.le_refl _) ?_
    cbv
    refine .go [] [1] [.frz [1]] (chunk hp (I.ext l' 10 (I.add 10 (I.sub (I.len l') 10)))) rfl rfl rfl rfl rfl rfl ?_
    rintro v m1 ⟨rfl, rfl⟩
    generalize I.ext l' 10 (I.add 10 (I.sub (I.len l') 10)) = lx at hlB
    have hq : pkOf x = ⟨I.conv .i64 z0, I.conv .i64 z1, I.conv .i64 z2, I.bin .or .i64 (I.bin .shl .i64 (I.conv .i64 z3) 8) (I.conv .i64 z4), I.conv .i64 z5, I.bin .sub .i64 (I.conv .i64 z6) 1, I.conv .i64 z7, I.cmp .eql z8 1, wordsAt (x.getD 9 0#8).toNat (x.drop 10)⟩ := by
     rw [hI, ← e0, ← e1, ← e2, ← e3, ← e4, ← e5, ← e6, ← e7, ← e8]
     simp only [ints, hb_conv]
     rfl
    have hK9 : (x.getD 9 0#8).toNat ≤ 1000 := by have := (x.getD 9 0#8).isLt; omega
    have hdl : (x.drop 10).length = 8 * (x.getD 9 0#8).toNat := by rw [List.length_drop, s3]; omega
    have hloop := fun (ts : List A) (m : Mem) (k f t i l p s : Int) (b : Bool) => unpack_loop hp lx (x.drop 10) (x.getD 9 0#8).toNat hlB hdl hK9 (ts := ts) (m := m) (bp := 2) (b1 := 3) (b2 := 4) (k := k) (f := f) (t := t) (i := i) (l := l) (p := p) (s := s) (b := b)
    rw [← hrf] at hloop
    generalize wordsAt (x.getD 9 0#8).toNat (x.drop 10) = d at hq hloop
    obtain ⟨D, hD⟩ : ∃ D, D = nrow .i64 d := ⟨_, rfl⟩
    rw [← hD] at hloop
    have hD : isL .i64 D d := hD
    rw [hq] at hpk
    cbv
    refine .rfun _ (hloop _ _ (I.conv .i64 z0) (I.conv .i64 z1) (I.conv .i64 z2) (I.bin .or .i64 (I.bin .shl .i64 (I.conv .i64 z3) 8) (I.conv .i64 z4)) (I.conv .i64 z5) (I.bin .sub .i64 (I.conv .i64 z6) 1) (I.conv .i64 z7) (I.cmp .eql z8 1) rfl rfl rfl rfl rfl rfl (by decide) (by decide)) ?_
    rintro ts m ⟨rfl, rfl⟩
    cbv
    refine .go [] [] [.bor 1] (pack hp ⟨.sym (I.conv .i64 z0), .sym (I.conv .i64 z1), .sym (I.conv .i64 z2), .sym (I.bin .or .i64 (I.bin .shl .i64 (I.conv .i64 z3) 8) (I.conv .i64 z4)), .sym (I.conv .i64 z5), .sym (I.bin .sub .i64 (I.conv .i64 z6) 1), .sym (I.conv .i64 z7), .sym (I.cmp .eql z8 1)⟩ D d hD) rfl rfl rfl rfl rfl rfl ?_
    rintro v m1 h
    simp only [PZ.pk, Z.val, BB.val] at h
    generalize hqq : (⟨I.conv .i64 z0, I.conv .i64 z1, I.conv .i64 z2, I.bin .or .i64 (I.bin .shl .i64 (I.conv .i64 z3) 8) (I.conv .i64 z4), I.conv .i64 z5, I.bin .sub .i64 (I.conv .i64 z6) 1, I.conv .i64 z7, I.cmp .eql z8 1, d⟩ : PK) = q at h hpk hq
    rcases h with ⟨k1, rfl, rfl⟩ | ⟨k1, L, hLs, rfl, rfl⟩
    ·cbv
     refine br_t (show I.cmp .neq 1 0 = true from by rw [hI]; rfl) ?_
     cbv
     exact hP _ _ [] [] _ _ .nil rfl rfl rfl rfl rfl (.inr ⟨by rw [hpk, k1]; rfl, rfl, rfl⟩)
    ·cbv
     refine br_f (show I.cmp .neq 0 0 = false from by rw [hI]; rfl) ?_
     cbv
     refine .go [] [] [.bor 1] (equalB hp L l _ bs hLs hl) rfl rfl rfl rfl rfl rfl ?_
     rintro v m1 ⟨t, ht, rfl, rfl⟩
     rw [k1, ← ht] at hpk
     cbv
     refine .br (fun g3 => ?_) (fun g3 => ?_)
     ·have h3 : t = false := by simpa [hI, ints] using g3
      cbv
      exact hP _ _ [] [] _ _ .nil rfl rfl rfl rfl rfl (.inr ⟨by rw [hpk, h3]; rfl, rfl, rfl⟩)
     ·have h3 : t = true := by simpa [hI, ints] using g3
      have hqd : q.d = d := by rw [← hqq]
      cbv
      refine hP _ _ [] [] _ _ .nil rfl rfl rfl rfl rfl (.inl ⟨by rw [hpk, h3]; rfl, q, D, by rw [ho, hq], by rw [hqd]; exact hD, ?_, rfl⟩)
      rw [← hqq]
      rfl
 ·cbv
  refine br_t (show I.not false = true from by rw [hI]; rfl) ?_
  cbv
  exact hP _ _ [] [] _ _ .nil rfl rfl rfl rfl rfl (.inr ⟨by
   unfold isPkB
   cases hs : (decide (2 ≤ bs.length) && isSeal bs) with
   | false => rfl
   | true =>
    simp only [Bool.and_eq_true, decide_eq_true_eq] at hs
    exact (h1 hs).elim, rfl, rfl⟩)
end
end Go.Proofs.Ytofdnnjkfpomcaa.E

/- PacketSame. -/
namespace Go.Proofs.Ytofdnnjkfpomcaa.E
open Go
set_option linter.unusedVariables false
set_option maxRecDepth 100000

theorem LValid.lit {P : Program} {f : FuncId} {args : List V1} {m : Mem} {k : IntKind} {R R' : A → Mem → Prop} (h : LValid P f args m R) (hR : ∀ v m1, R v m1 → ∃ z : Int, v = .one (.c (.g (.int k (.sym z)))) ∧ R' (.one (.c (.g (.int k (.lit z))))) m1) : LValid P f args m R' := fun E w vs hs hsz hr =>
 (h E w vs hs hsz hr).mono fun e w' ⟨u, v, m', E', a1, a2, a3, a4, a5⟩ => by
  obtain ⟨z, rfl, h1⟩ := hR v m' a2
  refine ⟨u, _, m', E', a1, h1, .inr ?_, rfl, a5⟩
  rcases a3 with a3 | a3
  ·cases a3
  ·generalize u = u' at a3
   cases a3
   exact .int k (.lit z)
section
variable {P : Program} (hp : P = Try.prog)
include hp
end
end Go.Proofs.Ytofdnnjkfpomcaa.E

/- The document's sum, and its way to spoil, digit by digit. -/
namespace Go.Proofs.Ytofdnnjkfpomcaa.E
open Go
set_option linter.unusedVariables false
set_option maxRecDepth 100000

/-! ### Spoiling, a digit of the mask at a time -/
end Go.Proofs.Ytofdnnjkfpomcaa.E

/- Contracts of the document's own answers on packets; a packet by small numbers. -/
namespace Go.Proofs.Ytofdnnjkfpomcaa.E
open Go
set_option linter.unusedVariables false
set_option maxRecDepth 100000

section
variable {P : Program} (hp : P = Try.prog)
include hp
theorem cut8 (l : List (List G)) (z : Z) (n : Nat) (hz : isN z.val n) (h8 : n ≤ 8) : LValid P 44 [.c (.bor 1 l), .c (.g (.int .i64 z))] [] (fun v m1 => ∃ l', l' = l.take n ∧ v = .one (.c (.row 0 1 none)) ∧ m1 = [.sym 1 l']) := by
 refine LValid.sy ?_
 show LValid P 44 [.c (.bor 1 l), .c (.g (.int .i64 (.sym z.val)))] [] _
 generalize z.val = z at hz
 obtain ⟨I, hI⟩ := ref
 refine fn_sim hI (mo hp) (cc hp c44) fun Post hP => ?_
 cbv
 obtain ⟨q, hq⟩ : ∃ q, q = min n l.length := ⟨_, rfl⟩
 refine .rng 0 q rfl ?_ (Nat.zero_le _) (by rw [hI, hq]; exact Nat.min_le_right _ _) ?_
 ·unfold isN at hz
  simp [hI, ints, hz, hq]
  split <;> omega
 cbv
 have hl' : (I.ext l 0 q).length * 8 ≤ 140737488355328 := by
  rw [hI, hq]
  simp [ints]
  omega
 generalize hx : I.ext l 0 q = l' at hl'
 refine .go [] [] [] (copy hp l' hl') rfl rfl rfl rfl ?_ rfl ?_
 ·rw [← hx]
  rfl
 rintro v m1 ⟨rfl, rfl⟩
 cbv
 exact hP _ _ [0] [] _ _ (by decide) rfl rfl rfl rfl rfl ⟨l', by rw [← hx, hI, hq]; simp [ints, List.take_eq_take_iff], rfl, rfl⟩
end
end Go.Proofs.Ytofdnnjkfpomcaa.E

/- Contract: a packet by small numbers, how = 0: one that may be. -/
namespace Go.Proofs.Ytofdnnjkfpomcaa.E
open Go
set_option linter.unusedVariables false
set_option maxRecDepth 100000

/-- The packet that is made of any. -/
def pk0 (q : PK) : PK := ⟨1 + win q.k 9, win q.f 4, win q.t 4, win q.i 5, win q.l 4, win q.p 5 - 1, win q.s 3, q.b, q.d.take 4⟩
theorem pk0_check (q : PK) : checkB (pk0 q) = true := by
 have h1 := win_in q.k 9 (by decide) (by decide)
 have h2 := win_in q.f 4 (by decide) (by decide)
 have h3 := win_in q.t 4 (by decide) (by decide)
 have h4 := win_in q.i 5 (by decide) (by decide)
 have h5 := win_in q.l 4 (by decide) (by decide)
 have h6 := win_in q.p 5 (by decide) (by decide)
 have h7 := win_in q.s 3 (by decide) (by decide)
 unfold checkB belB pk0
 simp only [Bool.and_eq_true, decide_eq_true_eq, List.length_take]
 omega
section
variable {P : Program} (hp : P = Try.prog)
include hp
theorem withinL (v n : Int) : LValid P 9 [.c (.g (.int .i64 (.sym v))), .c (.g (.int .i64 (.lit n)))] [] (fun r m1 => ∃ t, t = win v n ∧ r = i64 t ∧ m1 = []) := within hp (.sym v) (.lit n)
set_option maxHeartbeats 16000000 in
theorem pplay0 (q : PK) (D : List (List G)) (hD : isL .i64 D q.d) : LValid P 19 [q.told (.bor 1 D), .c (.g (.int .i64 (.lit 0)))] []
  (fun v m1 => ∃ (r : PK) (D' : List (List G)), r = pk0 q ∧ isL .i64 D' r.d ∧ v = .one (r.told (.row 0 1 none)) ∧ m1 = [.sym 1 D']) := by
 refine LValid.sy ?_
 obtain ⟨k, f, t, i, l, p, s, b, d⟩ := q
 show LValid P 19 [.agg [.g (.int .i64 (.sym k)), .g (.int .i64 (.sym f)), .g (.int .i64 (.sym t)), .g (.int .i64 (.sym i)), .g (.int .i64 (.sym l)), .g (.int .i64 (.sym p)), .g (.int .i64 (.sym s)), .g (.bool (.sym b)), .bor 1 D], .c (.g (.int .i64 (.sym 0)))] [] _
 have hD : isL .i64 D d := hD
 obtain ⟨I, hI⟩ := ref
 have hc4 := cut8 hp D (.lit 4) 4 rfl (by omega)
 have hl4 : ∀ l', l' = D.take 4 → isL .i64 l' (d.take 4) := fun l' h => by unfold isL at hD ⊢; rw [h, hD]; simp [nrow, List.map_take]
 have hadd : ∀ y, y = win k 9 → I.bin .add .i64 1 y = 1 + win k 9 := fun y h => by
  have := win_in k 9 (by decide) (by decide)
  rw [h, hI]
  exact wrap_in _ (by omega) (by omega)
 have hsub : ∀ y, y = win p 5 → I.bin .sub .i64 y 1 = win p 5 - 1 := fun y h => by
  have := win_in p 5 (by decide) (by decide)
  rw [h, hI]
  exact wrap_in _ (by omega) (by omega)
 have hmk : ∀ (k2 f2 t2 i2 l2 p2 s2 : Int), k2 = 1 + win k 9 → f2 = win f 4 → t2 = win t 4 → i2 = win i 5 → l2 = win l 4 → p2 = win p 5 - 1 → s2 = win s 3 → (⟨k2, f2, t2, i2, l2, p2, s2, b, d.take 4⟩ : PK) = pk0 ⟨k, f, t, i, l, p, s, b, d⟩ := fun k2 f2 t2 i2 l2 p2 s2 h1 h2 h3 h4 h5 h6 h7 => by rw [h1, h2, h3, h4, h5, h6, h7]; rfl
 obtain ⟨r0, hr0⟩ : ∃ r0, r0 = pk0 ⟨k, f, t, i, l, p, s, b, d⟩ := ⟨_, rfl⟩
 rw [← hr0] at hmk ⊢
 refine fn_sim hI (mo hp) (ccj hp c19) fun Post hP => ?_
 clear hr0
 cbv
 refine .join_next (fun ts m => ∃ (k2 f2 t2 i2 l2 p2 s2 : Int) (D2 : List (List G)), isL .i64 D2 (d.take 4) ∧ (⟨k2, f2, t2, i2, l2, p2, s2, b, d.take 4⟩ : PK) = r0 ∧
   ts = fr 85 [(1, i64 0), (2, .one (.c (.ptr 0 (.lit 0) 9 0))), (4, .one (.c (.ptr 1 (.lit 0) 9 0))), (5, .one (.c (.ptr 2 (.lit 0) 9 0)))] ∧
   m = [.lit 9 [[.g (.int .i64 (.sym k)), .g (.int .i64 (.sym f)), .g (.int .i64 (.sym t)), .g (.int .i64 (.sym i)), .g (.int .i64 (.sym l)), .g (.int .i64 (.sym p)), .g (.int .i64 (.sym s)), .g (.bool (.sym b)), .bor 1 D]], .lit 9 [[.g (.int .i64 (.sym 0)), .g (.int .i64 (.sym 0)), .g (.int .i64 (.sym 0)), .g (.int .i64 (.sym 0)), .g (.int .i64 (.sym 0)), .g (.int .i64 (.sym 0)), .g (.int .i64 (.sym 0)), .g (.bool (.sym false)), .g .nil]], .lit 9 [[.g (.int .i64 (.sym k2)), .g (.int .i64 (.sym f2)), .g (.int .i64 (.sym t2)), .g (.int .i64 (.sym i2)), .g (.int .i64 (.sym l2)), .g (.int .i64 (.sym p2)), .g (.int .i64 (.sym s2)), .g (.bool (.sym b)), .row 3 1 none]], .sym 1 D2]) ?_ ?_
 ·intro next hnx
  clear hP
  cbv
  refine .drawn [] ?_
  cbv
  repeat' first
   | (refine .both ?_ ?_)
   | (refine .go [] [] [] (withinL hp _ _) rfl rfl rfl rfl rfl rfl ?_; rintro r m1 ⟨y, hy, rfl, rfl⟩; cbv)
  all_goals
   refine .go [] [] [.bor 1] hc4 rfl rfl rfl rfl rfl rfl ?_
   rintro r m1 ⟨l', hl', rfl, rfl⟩
   have h1 := hl4 l' hl'
   clear hl'
   cbv
   first
    | exact hnx _ _ [0, 1, 2, 3] [] [1, 2, 4, 5] _ _ (by decide) rfl rfl rfl ⟨_, _, _, _, _, _, _, l', h1, hmk _ _ _ _ _ _ _ (hadd _ (by assumption)) (by assumption) (by assumption) (by assumption) (by assumption) (hsub _ (by assumption)) (by assumption), rfl, rfl⟩
    | exact hnx _ _ [0, 1, 3, 2] [] [1, 2, 4, 5] _ _ (by decide) rfl rfl rfl ⟨_, _, _, _, _, _, _, l', h1, hmk _ _ _ _ _ _ _ (hadd _ (by assumption)) (by assumption) (by assumption) (by assumption) (by assumption) (hsub _ (by assumption)) (by assumption), rfl, rfl⟩
 rintro ts m ⟨k2, f2, t2, i2, l2, p2, s2, D2, h1, h2, rfl, rfl⟩
 clear hc4 hl4 hmk hadd hsub
 cbv
 refine .go [] [] [] (withinL hp _ _) rfl rfl rfl rfl rfl rfl ?_
 rintro r m1 ⟨y, hy, rfl, rfl⟩
 have hy0 : y = 0 := by rw [hy]; rfl
 subst hy0
 cbv
 repeat (refine br_f (by rw [hI]; rfl) ?_; cbv)
 exact hP _ _ [3] [] _ _ (by decide) rfl rfl rfl rfl rfl ⟨r0, D2, rfl, by rw [← h2]; exact h1, by rw [← h2]; rfl, rfl⟩
end
end Go.Proofs.Ytofdnnjkfpomcaa.E

/- Plain laws: what is packed is unpacked. -/
namespace Go.Proofs.Ytofdnnjkfpomcaa.E
open Go
set_option linter.unusedVariables false
set_option maxRecDepth 100000

theorem wordIs {y : Int} (h : (Lit.int .u16 y).wf = true) : ∃ b : BitVec 16, y = w16 b := by
 have h2 : (decide (IntKind.u16.min ≤ y) && decide (y ≤ IntKind.u16.max)) = true := h
 rw [show IntKind.u16.min = 0 from rfl, show IntKind.u16.max = 65535 from rfl] at h2
 have h3 : 0 ≤ y ∧ y ≤ 65535 := by simpa using h2
 refine ⟨BitVec.ofNat 16 y.toNat, ?_⟩
 unfold w16
 rw [BitVec.toNat_ofNat, Nat.mod_eq_of_lt (by omega)]
 omega
theorem or_add (a b : Nat) (hb : b < 256) : (256 * a) ||| b = 256 * a + b := by
 have := Nat.two_pow_add_eq_or_of_lt (i := 8) (b := b) (by simpa using hb) a
 simpa using this.symm
theorem numStep_eq (n : Int) (c : BitVec 8) (h0 : 0 ≤ n) (h1 : n < 18446744073709551616) : numStep n c = (n * 256) % 18446744073709551616 + w8 c := by
 obtain ⟨m, rfl⟩ : ∃ m : Nat, n = (m : Int) := ⟨n.toNat, by omega⟩
 have hc := c.isLt
 have e1 : IntKind.u64.wrap (w8 c) = ((c.toNat : Nat) : Int) := by unfold w8; rw [IntKind.wrap_u64]; omega
 have e2 : rBin .shl .u64 (m : Int) 8 = ((256 * (m % 72057594037927936) : Nat) : Int) := by
  show IntKind.u64.wrap ((m : Int) * 2 ^ (min (8 : Int).toNat 64)) = _
  rw [IntKind.wrap_u64, show ((2 : Int) ^ (min (8 : Int).toNat 64)) = 256 from rfl]
  omega
 unfold numStep
 rw [e1, e2]
 show IntKind.u64.wrap ((BitVec.ofInt 64 ((256 * (m % 72057594037927936) : Nat) : Int) ||| BitVec.ofInt 64 ((c.toNat : Nat) : Int)).toNat : Int) = _
 rw [BitVec.toNat_or, BitVec.ofInt_natCast, BitVec.ofInt_natCast, BitVec.toNat_ofNat, BitVec.toNat_ofNat, Nat.mod_eq_of_lt (show 256 * (m % 72057594037927936) < 2 ^ 64 by omega), Nat.mod_eq_of_lt (show c.toNat < 2 ^ 64 by omega), or_add _ _ hc, IntKind.wrap_u64]
 unfold w8
 omega
theorem byteAt_val (v : Int) (k : Nat) : w8 (byteAt v k) = (v / 2 ^ k) % 256 := by
 unfold byteAt
 rw [w8_ofInt, Int.fdiv_eq_ediv_of_nonneg _ (by exact Int.le_of_lt (Int.pow_pos (by decide)))]
theorem numB_word (v : Int) (h : -9223372036854775808 ≤ v ∧ v ≤ 9223372036854775807) : numB (wordB v) = v := by
 have step : ∀ (q n M : Int) (c : BitVec 8), 0 ≤ M → M * 256 ≤ 18446744073709551616 → n = (q / 256) % M → 0 < M → w8 c = q % 256 → numStep n c = q % (M * 256) := fun q n M c h0 h1 hn hM hc => by
  have hb := Int.emod_nonneg (q / 256) (show M ≠ 0 by omega)
  have hl := Int.emod_lt_of_pos (q / 256) hM
  rw [numStep_eq n c (by omega) (by omega), hc, hn]
  have e : ((q / 256) % M * 256) % 18446744073709551616 = (q / 256) % M * 256 := by
   rw [Int.emod_eq_of_lt] <;> omega
  rw [e]
  have h3 := Int.emod_add_mul_ediv q (M * 256)
  have h4 : q / (M * 256) = q / 256 / M := by rw [Int.mul_comm M 256, ← Int.ediv_ediv_of_nonneg (by decide)]
  have h5 := Int.emod_add_mul_ediv (q / 256) M
  have h6 := Int.emod_add_mul_ediv q 256
  rw [h4] at h3
  have h7 : M * 256 * (q / 256 / M) = 256 * (M * (q / 256 / M)) := by rw [Int.mul_comm M 256, Int.mul_assoc]
  rw [h7] at h3
  omega
 have d : ∀ k : Nat, v / 2 ^ (k + 8) = v / 2 ^ k / 256 := fun k => by
  rw [Int.pow_add, ← Int.ediv_ediv_of_nonneg (by exact Int.le_of_lt (Int.pow_pos (by decide)))]
  rfl
 have b : ∀ k, w8 (byteAt v k) = (v / 2 ^ k) % 256 := byteAt_val v
 have s1 : numStep 0 (byteAt v 56) = (v / 2 ^ 56) % 256 := by
  rw [numStep_eq 0 _ (by decide) (by decide), b]
  simp
 have s2 : numStep ((v / 2 ^ 56) % 256) (byteAt v 48) = (v / 2 ^ 48) % 65536 := step (v / 2 ^ 48) _ 256 _ (by decide) (by decide) (by rw [d 48]) (by decide) (b 48)
 have s3 : numStep ((v / 2 ^ 48) % 65536) (byteAt v 40) = (v / 2 ^ 40) % 16777216 := step (v / 2 ^ 40) _ 65536 _ (by decide) (by decide) (by rw [d 40]) (by decide) (b 40)
 have s4 : numStep ((v / 2 ^ 40) % 16777216) (byteAt v 32) = (v / 2 ^ 32) % 4294967296 := step (v / 2 ^ 32) _ 16777216 _ (by decide) (by decide) (by rw [d 32]) (by decide) (b 32)
 have s5 : numStep ((v / 2 ^ 32) % 4294967296) (byteAt v 24) = (v / 2 ^ 24) % 1099511627776 := step (v / 2 ^ 24) _ 4294967296 _ (by decide) (by decide) (by rw [d 24]) (by decide) (b 24)
 have s6 : numStep ((v / 2 ^ 24) % 1099511627776) (byteAt v 16) = (v / 2 ^ 16) % 281474976710656 := step (v / 2 ^ 16) _ 1099511627776 _ (by decide) (by decide) (by rw [d 16]) (by decide) (b 16)
 have s7 : numStep ((v / 2 ^ 16) % 281474976710656) (byteAt v 8) = (v / 2 ^ 8) % 72057594037927936 := step (v / 2 ^ 8) _ 281474976710656 _ (by decide) (by decide) (by rw [d 8]) (by decide) (b 8)
 have s8 : numStep ((v / 2 ^ 8) % 72057594037927936) (byteAt v 0) = v % 18446744073709551616 := step v _ 72057594037927936 _ (by decide) (by decide) (by rw [show v / 2 ^ 8 = v / 256 from rfl]) (by decide) (by rw [b 0]; simp)
 unfold numB wordB
 simp only [List.foldl_cons, List.foldl_nil]
 rw [s1, s2, s3, s4, s5, s6, s7, s8, IntKind.wrap_i64]
 omega
theorem flat_part : ∀ (d : List Int) (k : Nat) (x : Int), d[k]? = some x → ((d.flatMap wordB).take (8 * k + 8)).drop (8 * k) = wordB x
 | [], k, x, h => by simp at h
 | y :: d, 0, x, h => by
  obtain rfl : y = x := by simpa using h
  rw [List.flatMap_cons]
  have : (wordB y).length = 8 := rfl
  rw [Nat.mul_zero, Nat.zero_add, List.drop_zero, List.take_append_of_le_length (by omega), List.take_of_length_le (by omega)]
 | y :: d, k + 1, x, h => by
  have h' : d[k]? = some x := h
  have := flat_part d k x h'
  have hy : (wordB y).length = 8 := rfl
  rw [List.flatMap_cons, show 8 * (k + 1) + 8 = (wordB y).length + (8 * k + 8) by omega, show 8 * (k + 1) = (wordB y).length + 8 * k by omega, List.take_length_add_append, List.drop_length_add_append]
  exact this
theorem wordsAt_pack (d : List Int) (hd : ∀ y ∈ d, -9223372036854775808 ≤ y ∧ y ≤ 9223372036854775807) : wordsAt d.length (d.flatMap wordB) = d := by
 apply List.ext_getElem?
 intro k
 unfold wordsAt
 rw [List.getElem?_map]
 by_cases hk : k < d.length
 ·rw [List.getElem?_range hk]
  have hx := List.getElem?_eq_getElem hk
  rw [hx]
  show some (wordAt d.length (d.flatMap wordB) k) = _
  unfold wordAt
  rw [show min k (d.length - 1) = k by omega, flat_part d k _ hx, numB_word _ (hd _ (List.getElem_mem hk))]
 ·rw [List.getElem?_eq_none (by simpa using hk), List.getElem?_eq_none (by omega)]
  rfl
theorem or64 (a b : Int) (ha : 0 ≤ a ∧ a < 256) (hb : 0 ≤ b ∧ b < 256) : rBin .or .i64 (rBin .shl .i64 a 8) b = 256 * a + b := by
 obtain ⟨m, rfl⟩ : ∃ m : Nat, a = (m : Int) := ⟨a.toNat, by omega⟩
 obtain ⟨c, rfl⟩ : ∃ c : Nat, b = (c : Int) := ⟨b.toNat, by omega⟩
 have e2 : rBin .shl .i64 (m : Int) 8 = ((256 * m : Nat) : Int) := by
  show IntKind.i64.wrap ((m : Int) * 2 ^ (min (8 : Int).toNat 64)) = _
  rw [show ((2 : Int) ^ (min (8 : Int).toNat 64)) = 256 from rfl, wrap_in] <;> omega
 rw [e2]
 show IntKind.i64.wrap ((BitVec.ofInt 64 ((256 * m : Nat) : Int) ||| BitVec.ofInt 64 ((c : Nat) : Int)).toNat : Int) = _
 rw [BitVec.toNat_or, BitVec.ofInt_natCast, BitVec.ofInt_natCast, BitVec.toNat_ofNat, BitVec.toNat_ofNat, Nat.mod_eq_of_lt (show 256 * m < 2 ^ 64 by omega), Nat.mod_eq_of_lt (show c < 2 ^ 64 by omega), or_add _ _ (by omega), wrap_in] <;> omega
/-- What is packed is unpacked. -/
theorem pk_back (q : PK) (hc : checkB q = true) (hd : ∀ y ∈ q.d, -9223372036854775808 ≤ y ∧ y ≤ 9223372036854775807) : pkOf (packB q) = q ∧ shapeB (packB q) = true := by
 obtain ⟨h1, h2, h3, h4, h5, h6, h7, h8⟩ := checkB_in hc
 obtain ⟨k, f, t, i, l, p, s, b, d⟩ := q
 simp only at h1 h2 h3 h4 h5 h6 h7 h8 hd
 have e0 : hb (packB ⟨k, f, t, i, l, p, s, b, d⟩) 0 = k := by show w8 (BitVec.ofInt 8 k) = k; rw [w8_ofInt]; omega
 have e1 : hb (packB ⟨k, f, t, i, l, p, s, b, d⟩) 1 = f := by show w8 (BitVec.ofInt 8 f) = f; rw [w8_ofInt]; omega
 have e2 : hb (packB ⟨k, f, t, i, l, p, s, b, d⟩) 2 = t := by show w8 (BitVec.ofInt 8 t) = t; rw [w8_ofInt]; omega
 have e3 : hb (packB ⟨k, f, t, i, l, p, s, b, d⟩) 3 = i / 256 := by show w8 (byteAt i 8) = _; rw [byteAt_val, show ((2 : Int) ^ 8) = 256 from rfl]; omega
 have e4 : hb (packB ⟨k, f, t, i, l, p, s, b, d⟩) 4 = i % 256 := by show w8 (BitVec.ofInt 8 i) = _; rw [w8_ofInt]
 have e5 : hb (packB ⟨k, f, t, i, l, p, s, b, d⟩) 5 = l := by show w8 (BitVec.ofInt 8 l) = l; rw [w8_ofInt]; omega
 have e6 : hb (packB ⟨k, f, t, i, l, p, s, b, d⟩) 6 = p + 1 := by show w8 (BitVec.ofInt 8 (IntKind.i64.wrap (p + 1))) = _; rw [w8_ofInt, wrap_in] <;> omega
 have e7 : hb (packB ⟨k, f, t, i, l, p, s, b, d⟩) 7 = s := by show w8 (BitVec.ofInt 8 s) = s; rw [w8_ofInt]; omega
 have e8 : rCmp .eql (hb (packB ⟨k, f, t, i, l, p, s, b, d⟩) 8) 1 = b := by show rCmp .eql (w8 (if b then 1#8 else 0#8)) 1 = b; cases b <;> rfl
 have e9 : ((packB ⟨k, f, t, i, l, p, s, b, d⟩).getD 9 0#8).toNat = d.length := by
  show (BitVec.ofInt 8 (d.length : Int)).toNat = _
  rw [BitVec.toNat_ofInt]
  omega
 have e10 : (packB ⟨k, f, t, i, l, p, s, b, d⟩).drop 10 = d.flatMap wordB := rfl
 refine ⟨?_, ?_⟩
 ·unfold pkOf
  rw [e0, e1, e2, e3, e4, e5, e6, e7, e8, e9, e10, wordsAt_pack d hd, or64 _ _ (by omega) (by omega)]
  rw [show rBin .sub .i64 (p + 1) 1 = p from by show IntKind.i64.wrap (p + 1 - 1) = p; rw [wrap_in] <;> omega]
  rw [show 256 * (i / 256) + i % 256 = i by omega]
 ·unfold shapeB
  rw [e9, packB_len]
  simp
theorem isPk_back (q : PK) (hc : checkB q = true) (hd : ∀ y ∈ q.d, -9223372036854775808 ≤ y ∧ y ≤ 9223372036854775807) : isPkB (sealB (packB q)) = true ∧ pkOf (opened (sealB (packB q))) = q := by
 obtain ⟨h1, h2⟩ := pk_back q hc hd
 have h3 : opened (sealB (packB q)) = packB q := seal_take _
 unfold isPkB
 rw [h3, h1, h2, hc, seal_is, sealB_len, decide_eq_true (by omega)]
 simp
end Go.Proofs.Ytofdnnjkfpomcaa.E

/- The wire: what comes of a packet's bytes that are spoilt. -/
namespace Go.Proofs.Ytofdnnjkfpomcaa.E
open Go
set_option linter.unusedVariables false
set_option maxRecDepth 100000

def wireB (q : PK) (bit : Int) (mask : BitVec 16) : Bool := checkB q && (spoilt mask bit 0 (sealB (packB q)) == sealB (packB q))
theorem wireB_is (q : PK) (bit : Int) (mask : BitVec 16) (hc : checkB q = true) (hd : ∀ y ∈ q.d, -9223372036854775808 ≤ y ∧ y ≤ 9223372036854775807) :
  (isPkB (spoilt mask bit 0 (sealB (packB q))) = true → wireB q bit mask = true ∧ pkOf (opened (spoilt mask bit 0 (sealB (packB q)))) = q) ∧ (isPkB (spoilt mask bit 0 (sealB (packB q))) = false → wireB q bit mask = false) := by
 obtain ⟨h1, h2⟩ := isPk_back q hc hd
 refine ⟨fun h => ?_, fun h => ?_⟩
 ·have h3 := h
  unfold isPkB at h3
  simp only [Bool.and_eq_true, decide_eq_true_eq] at h3
  obtain ⟨⟨⟨⟨h4, h5⟩, _⟩, _⟩, _⟩ := h3
  rw [isSeal_iff _ h4] at h5
  have h6 := spoilt_found mask bit (sealB (packB q)) (seal_sum _) (by simpa using h5)
  rw [h6]
  exact ⟨by unfold wireB; rw [h6, hc]; simp, h2⟩
 ·unfold wireB
  rw [hc]
  cases h6 : (spoilt mask bit 0 (sealB (packB q)) == sealB (packB q)) with
  | false => rfl
  | true =>
   have h7 : spoilt mask bit 0 (sealB (packB q)) = sealB (packB q) := by simpa using h6
   rw [h7, h1] at h
   cases h
section
variable {P : Program} (hp : P = Try.prog)
include hp
set_option maxHeartbeats 4000000 in
theorem wire_ (q : PK) (D : List (List G)) (hD : isL .i64 D q.d) (hd : ∀ y ∈ q.d, -9223372036854775808 ≤ y ∧ y ≤ 9223372036854775807) (bit : Int) (hb : -9223372036854775808 ≤ bit ∧ bit ≤ 9223372036854775807) (qm : Int) (mask : BitVec 16) (hm : qm = w16 mask) :
  LValid P 39 [q.told (.bor 1 D), gi .i64 bit, gi .u16 qm] []
  (fun v m1 => (wireB q bit mask = true ∧ ∃ D', isL .i64 D' q.d ∧ v = .tup [q.told (.g (.rows 1 D')), gi .i64 0] ∧ m1 = []) ∨ (wireB q bit mask = false ∧ v = .tup [PK.nought.told (.g .nil), gi .i64 2] ∧ m1 = [])) := by
 obtain ⟨k, f, t, i2, l, p, s, b, d⟩ := q
 show LValid P 39 [.agg [.g (.int .i64 (.sym k)), .g (.int .i64 (.sym f)), .g (.int .i64 (.sym t)), .g (.int .i64 (.sym i2)), .g (.int .i64 (.sym l)), .g (.int .i64 (.sym p)), .g (.int .i64 (.sym s)), .g (.bool (.sym b)), .bor 1 D], gi .i64 bit, gi .u16 qm] [] _
 have hD : isL .i64 D d := hD
 have hpa := pack hp ⟨.sym k, .sym f, .sym t, .sym i2, .sym l, .sym p, .sym s, .sym b⟩ D d hD
 rw [show PZ.pk ⟨.sym k, .sym f, .sym t, .sym i2, .sym l, .sym p, .sym s, .sym b⟩ d = ⟨k, f, t, i2, l, p, s, b, d⟩ from rfl] at hpa
 have hw := wireB_is ⟨k, f, t, i2, l, p, s, b, d⟩ bit mask
 have hw0 : checkB ⟨k, f, t, i2, l, p, s, b, d⟩ = false → wireB ⟨k, f, t, i2, l, p, s, b, d⟩ bit mask = false := fun h => by unfold wireB; rw [h]; rfl
 refine LValid.syv (R := fun v m1 => (wireB ⟨k, f, t, i2, l, p, s, b, d⟩ bit mask = true ∧ ∃ D', isL .i64 D' d ∧ v = .tup [PK.told ⟨k, f, t, i2, l, p, s, b, d⟩ (.g (.rows 1 D')), gi .i64 0] ∧ m1 = []) ∨ (wireB ⟨k, f, t, i2, l, p, s, b, d⟩ bit mask = false ∧ (v = .tup [PK.nought.told (.g .nil), gi .i64 2] ∨ v = .tup [noughtL, .c (.g (.int .i64 (.lit 2)))]) ∧ m1 = [])) ?_
  (fun v m1 h => h.imp (fun ⟨h1, D', h2, h3, h4⟩ => ⟨h1, D', h2, by rw [h3]; rfl, h4⟩) (fun ⟨h1, h2, h3⟩ => ⟨h1, by rcases h2 with h2 | h2 <;> rw [h2] <;> rfl, h3⟩))
 obtain ⟨I, hI⟩ := ref
 have hbl : d.length ≤ 4 → (sealB (packB ⟨k, f, t, i2, l, p, s, b, d⟩)).length ≤ 1000 := fun h => by
  rw [sealB_len, packB_len]
  show 10 + 8 * d.length + 2 ≤ _
  omega
 have hck := fun h => (checkB_in (q := ⟨k, f, t, i2, l, p, s, b, d⟩) h).2.2.2.2.2.2.2
 generalize hsb : sealB (packB ⟨k, f, t, i2, l, p, s, b, d⟩) = bs at hpa hw hbl
 generalize hqq : (⟨k, f, t, i2, l, p, s, b, d⟩ : PK) = q at hpa hw hw0 hck
 refine fn_sim hI (mo hp) (cc hp c39) fun Post hP => ?_
 cbv
 refine .go [] [] [] hpa rfl rfl rfl rfl rfl rfl ?_
 rintro v m1 (⟨h1, rfl, rfl⟩ | ⟨h1, l1, hl1, rfl, rfl⟩)
 ·have h2 := hw0 h1
  cbv
  refine br_t (show I.cmp .neq 1 0 = true from by rw [hI]; rfl) ?_
  cbv
  exact hP _ _ [] [] _ _ .nil rfl rfl rfl rfl rfl (.inr ⟨by first | exact h2 | (rw [hqq]; exact h2), .inr rfl, rfl⟩)
 ·obtain ⟨w1, w2⟩ := hw h1 (by rw [← hqq]; exact hd)
  have hn := hbl (by have := hck h1; rw [← hqq] at this; exact this)
  cbv
  refine br_f (show I.cmp .neq 0 0 = false from by rw [hI]; rfl) ?_
  cbv
  refine .go [] [] [.bor 1] (spoil hp l1 bs hl1 (by omega) (.sym bit) hb (.sym qm) mask hm) rfl rfl rfl rfl rfl rfl ?_
  rintro v m1 ⟨l2, hl2, rfl, rfl⟩
  have hl2 : isB l2 (spoilt mask bit 0 bs) := hl2
  have hn2 : (spoilt mask bit 0 bs).length ≤ 140737488351250 := by rw [spoilt_len]; omega
  cbv
  refine .go [] [] [.bor 1] (unpack hp l2 _ hl2 hn2) rfl rfl rfl rfl rfl rfl ?_
  rintro v m1 (⟨h2, q2, D2, hq2, hD2, rfl, rfl⟩ | ⟨h2, rfl, rfl⟩)
  ·obtain ⟨w3, w4⟩ := w1 h2
   obtain rfl : q2 = q := by rw [hq2, w4]
   subst hqq
   have hD2 : isL .i64 D2 d := hD2
   cbv
   exact hP _ _ [] [] _ _ .nil rfl rfl rfl rfl rfl (.inl ⟨w3, D2, hD2, rfl, rfl⟩)
  ·have w3 := w2 h2
   cbv
   exact hP _ _ [] [] _ _ .nil rfl rfl rfl rfl rfl (.inr ⟨by first | exact w3 | (rw [hqq]; exact w3), .inl rfl, rfl⟩)
end
end Go.Proofs.Ytofdnnjkfpomcaa.E

/- Plain law for Deliver: places are unique. -/
namespace Go.Proofs.Ytofdnnjkfpomcaa.E
open Go
set_option linter.unusedVariables false

/-- The queue of a packet: its receiver's, of its sort. -/
def dest (q : PK) : Nat := 4 * q.t.toNat + (if reqB q.k then 1 else 3)
def roomQ (i : Int) (q : PK) : Int := if reqB q.k then i else 1
theorem isP.add {L D : List (List G)} {ps : List PK} {q : PK} (h : isP L ps) (hD : isL .i64 D q.d) : isP (L ++ [q.row D]) (ps ++ [q]) := by
 unfold isP at h ⊢
 rw [h, show D = nrow .i64 q.d from hD]
 simp
theorem isN_eq {x : Int} {a b : Nat} (h : isN x a) (h2 : isN x b) : a = b := by unfold isN at h h2; omega
theorem lenIs {L : List (List G)} {ps : List PK} {n : Nat} (h : isP L ps) (hn : n < L.length) : n < ps.length := by rw [← h.len]; exact hn
theorem notOut {x : Int} {n m : Nat} (hx : isN x n) (hn : n < m) : ¬ (x < 0 ∨ ∃ i, isN x i ∧ m ≤ i) := by
 unfold isN at hx ⊢
 rintro (h | ⟨i, h, h2⟩) <;> omega
theorem sumLen_le : ∀ (l : List (List (List G))) (a b : Nat), a ≤ b → sumLen a l ≤ sumLen b l
 | _, 0, b, _ => by
  have : ∀ l, sumLen 0 l = 0 := fun l => by cases l <;> rfl
  rw [this]; exact Nat.zero_le _
 | [], a + 1, b, _ => by
  have : sumLen (a + 1) [] = 0 := rfl
  rw [this]; exact Nat.zero_le _
 | L :: r, a + 1, b + 1, h => by
  show L.length + sumLen a r ≤ L.length + sumLen b r
  exact Nat.add_le_add_left (sumLen_le r a b (by omega)) _
theorem sumLen_uniq (l : List (List (List G))) (q q2 n n2 : Nat) (L L2 : List (List G)) (h : l[q]? = some L) (h2 : l[q2]? = some L2) (hn : n < L.length) (hn2 : n2 < L2.length) (he : sumLen q l + n = sumLen q2 l + n2) : q = q2 ∧ n = n2 := by
 have a1 := sumLen_step q l L h
 have a2 := sumLen_step q2 l L2 h2
 rcases Nat.lt_trichotomy q q2 with g | g | g
 ·have := sumLen_le l (q + 1) q2 g; omega
 ·subst g; omega
 ·have := sumLen_le l (q2 + 1) q g; omega
theorem sumLen_big {z : Int} {l : List (List (List G))} {q n K : Nat} {L : List (List G)} (hz : z = ((sumLen q l + n : Nat) : Int)) (h : l[q]? = some L) (hn : n < L.length) (hK : l.length = K) : ¬ (z < 0 ∨ ((sumLen K l : Nat) : Int) ≤ z) := by
 have a1 := sumLen_step q l L h
 have := sumLen_le l (q + 1) K (by have := (List.getElem?_eq_some_iff.1 h).1; omega)
 rintro (h | h) <;> omega
end Go.Proofs.Ytofdnnjkfpomcaa.E

/- Contracts told anew: blocks that were handed in may be forgotten in their place and named again at the end; nil as frozen rows inside of what is told. -/
namespace Go.Proofs.Ytofdnnjkfpomcaa.E
open Go
set_option linter.unusedVariables false
set_option linter.unusedSectionVars false

section
variable {P : Program} {I : Ints}
/-- Where blocks lie that are not there may be said at will. -/
theorem Sat.place {E : Env} {m : Mem} {w : World} (hs : Sat E m w) (ρ' : Nat → Option (Nat × Nat)) (h : ∀ b, b < m.length → ρ' b = E.ρ b) : Sat { E with ρ := ρ' } m w ∧ Step E m w { E with ρ := ρ' } m w := by
 have step : Step E m w { E with ρ := ρ' } m w := { F := fun _ h => h, B := fun _ h => h, ρ := h, len := Nat.le_refl _, shape := fun id blk' _ h hl => ⟨blk', h, hl, rfl, rfl⟩, frz := fun _ _ => rfl, stays := Stays.refl w }
 have lt : ∀ {id : Nat} {blk : Blk}, m[id]? = some blk → id < m.length := fun h => (List.getElem?_eq_some_iff.1 h).1
 refine ⟨⟨fun id blk hb hl => ?_, fun i j bi bj a x y h1 h2 l1 l2 e1 e2 => ?_, fun i bi a x h1 l1 e1 => ?_, hs.old, fun id ag l hb => ?_⟩, step⟩
 ·show (ρ' id = none ∧ _) ∨ ∃ a base, ρ' id = some (a, base) ∧ _
  rw [h id (lt hb)]
  refine (hs.rep id blk hb hl).imp (fun h => h) ?_
  rintro ⟨a, base, e, g1, g2, g3⟩
  exact ⟨a, base, e, g1, g2, fun i row hi => ⟨(g3 i row hi).1, fun j x hj => let ⟨u, q1, q2⟩ := (g3 i row hi).2 j x hj; ⟨u, q1, q2.step step⟩⟩⟩
 ·exact hs.inj i j bi bj a x y h1 h2 l1 l2 (by rw [← h i (lt h1)]; exact e1) (by rw [← h j (lt h2)]; exact e2)
 ·exact hs.dis i bi a x h1 l1 (by rw [← h i (lt h1)]; exact e1)
 ·obtain ⟨a, e, g⟩ := hs.maps id ag l hb
  exact ⟨a, (h id (lt hb)).trans e, g⟩
theorem idx_of {σ : List Nat} (hn : σ.Nodup) {i b : Nat} (h : σ[i]? = some b) : σ.idxOf? b = some i := by
 cases hq : σ.idxOf? b with
 | none => exact absurd (List.mem_of_getElem? h) (idx_none hq)
 | some j =>
  have h2 := idx_some hq
  obtain ⟨hi, e1⟩ := List.getElem?_eq_some_iff.1 h
  obtain ⟨hj, e2⟩ := List.getElem?_eq_some_iff.1 h2
  rw [(List.getElem_inj hn).1 (e2.trans e1.symm)]
/-- What is told may be named anew; a block that was handed in may be forgotten in its place (a name that is none), and named again behind. -/
theorem LValid.postF {f : FuncId} {args : List V1} {m : Mem} {R R' : A → Mem → Prop} (hI : I = ints) (h : LValid P f args m R)
  (hR : ∀ v m1, R v m1 → ∃ σ fz : List Nat, σ.Nodup ∧ (∀ id, id < m.length → ∃ b, σ[id]? = some b ∧ (b = id ∨ m1.length ≤ b)) ∧ (v.inv I σ (.frz fz) m1).free = true ∧ (invMem I σ (.frz fz) m1).all Blk.free = true ∧ R' (v.inv I σ (.frz fz) m1) (invMem I σ (.frz fz) m1)) : LValid P f args m R' := fun E w vs hs hsz hr =>
 (h E w vs hs hsz hr).mono fun e w' ⟨u, v, m', E', a1, a2, a3, a4, a5, a6, a7⟩ => by
  obtain ⟨σ, fz, h1, h2, h3, h4, h5⟩ := hR v m' a2
  obtain ⟨ρ', hρ⟩ : ∃ ρ' : Nat → Option (Nat × Nat), ρ' = fun b => if b < m'.length then E'.ρ b else (σ.idxOf? b).bind E.ρ := ⟨_, rfl⟩
  have hρ1 : ∀ b, b < m'.length → ρ' b = E'.ρ b := fun b hb => by rw [hρ]; exact if_pos hb
  obtain ⟨s1, s2⟩ := a6.place ρ' hρ1
  have hfz : ∀ l, How.frz fz = .frz l → ∀ b ∈ l, b ∉ σ → b ∈ fz.filter (fun b => !σ.contains b) := fun l e b hb hn => by
   cases e
   simp [hb, hn]
  have hB : ∀ es, How.frz fz = .bor es → ∀ b, b ∉ σ → (fun _ : Nat => False) b := fun es e => by cases e
  have hfσ : ∀ b ∈ fz.filter (fun b => !σ.contains b), b ∉ σ := fun b hb => by
   simp at hb
   exact hb.2
  have hsh := inv_shape (I := I) σ (.frz fz) m'
  have foot : ∀ k, LiveAt (fun _ => True) E' m' k → w.heap.size ≤ k ∨ Foot (fun _ => True) E m k := fun k ⟨b, blk, x, q1, q2, q3, q4⟩ => a7.foot (Wt' := fun _ => True) (fun _ _ _ => trivial) ⟨b, blk, x, q1, q2, trivial, q4⟩
  have lt : ∀ {id : Nat} {blk : Blk}, m'[id]? = some blk → id < m'.length := fun h => (List.getElem?_eq_some_iff.1 h).1
  have hlen : m.length ≤ σ.length := by
   rcases Nat.eq_zero_or_pos m.length with h0 | h0
   ·omega
   ·obtain ⟨b, hb, _⟩ := h2 (m.length - 1) (by omega)
    have := (List.getElem?_eq_some_iff.1 hb).1
    omega
  refine ⟨u, _, _, Env.ren { E' with ρ := ρ' } m' σ (fz.filter (fun b => !σ.contains b)) (fun _ => False), a1, h5, ARep.inv hI s1 hfz hB hsh (a3.step s2), h3, fun id blk hb => List.all_eq_true.1 h4 blk (List.mem_of_getElem? hb), Sat.inv hI s1 h1 hfz hB (fun _ h => h.elim) hfσ, ?_⟩
  exact
   {F := fun k hk => .inl (a7.F k hk)
    B := fun k hk => .inl (a7.B k hk)
    ρ := fun id hid => by
     obtain ⟨b, hb, hc⟩ := h2 id hid
     show (σ[id]?).bind ρ' = E.ρ id
     rw [hb]
     show ρ' b = E.ρ id
     rcases hc with rfl | hc
     ·rw [hρ1 _ (Nat.lt_of_lt_of_le hid a7.len)]
      exact a7.ρ _ hid
     ·rw [hρ]
      show (if b < m'.length then E'.ρ b else (σ.idxOf? b).bind E.ρ) = E.ρ id
      rw [if_neg (by omega), idx_of h1 hb]
      rfl
    len := by rw [hsh.len]; exact hlen
    shape := fun id blk' hid h hl => by
     obtain ⟨b, hb, hc⟩ := h2 id hid
     obtain ⟨blk, q1, q2, q3, q4⟩ := hsh.get id b blk' hb h hl
     rcases hc with rfl | hc
     ·obtain ⟨blk0, r1, r2, r3, r4⟩ := a7.shape b blk hid q1 q2
      exact ⟨blk0, r1, r2, q3.trans r3, q4.trans r4⟩
     ·have := lt q1
      omega
    frz := a7.frz
    stays := a7.stays
    B' := fun k hk => hk.elim (a7.B' k) (fun ⟨_, _, _, _, _, h, _⟩ => h.elim)
    os := a7.os
    tape := a7.tape
    output := a7.output
    size := a7.size
    block := a7.block
    newF := fun k hk => by
     rcases hk with hk | ⟨b, blk, x, q1, q2, q3, q4⟩
     ·exact a7.newF k hk
     ·exact .inr (foot k ⟨b, blk, x, q1, q2, trivial, (hρ1 b (lt q1)).symm.trans q4⟩)
    newρ := fun id a_ x blk' hid h hl e => by
     cases hq : σ[id]? with
     | none => simp [Env.ren, hq] at e
     | some b =>
      obtain ⟨blk, q1, q2, _, _⟩ := hsh.get id b blk' hq h hl
      exact foot a_ ⟨b, blk, x, q1, q2, trivial, by rw [← hρ1 b (lt q1)]; simpa [Env.ren, hq] using e⟩ }
/-- A nil slice is frozen rows, none. -/
def C.nr (es : Nat) : C → C
 | .g .nil => .g (.rows es [])
 | x => x
def V1.nr (es : Nat) : V1 → V1
 | .c x => .c (x.nr es)
 | .agg l => .agg (l.map (C.nr es))
def A.nr (es : Nat) : A → A
 | .one v => .one (v.nr es)
 | .tup l => .tup (l.map (V1.nr es))
theorem C_nr_free (es : Nat) (x : C) : (x.nr es).free = x.free := by
 cases x with
 | g x => cases x <;> rfl
 | _ => rfl
theorem V1_nr_free (es : Nat) (x : V1) : (x.nr es).free = x.free := by
 cases x with
 | c x => exact C_nr_free es x
 | agg l => simp [V1.nr, V1.free, List.all_map, Function.comp_def, C_nr_free]
theorem A_nr_free (es : Nat) (x : A) : (x.nr es).free = x.free := by
 cases x with
 | one v => exact V1_nr_free es v
 | tup l => simp [A.nr, A.free, List.all_map, Function.comp_def, V1_nr_free]
theorem C_nr {E : Env} {m : Mem} {w : World} (es : Nat) {x : C} {u : Value} (h : CRep E m w x u) : CRep E m w (x.nr es) u := by
 cases x with
 | g x =>
  cases x with
  | nil =>
   have hu : u = .slice none 0 0 := by
    generalize u = u' at h
    cases h
    rfl
   rw [hu]
   exact GRep.rows (l := []) (fun _ _ => undef) (Nat.le_refl _) ⟨fun i r h => by simp at h, fun i r j x h => by simp at h, fun h => absurd rfl h⟩ (fun i r j x h => by simp at h)
  | _ => exact h
 | _ => exact h
theorem V1_nr {E : Env} {m : Mem} {w : World} (es : Nat) {x : V1} {u : Value} (h : V1Rep E m w x u) : V1Rep E m w (x.nr es) u := by
 cases x with
 | c x =>
  rcases h with rfl | h
  ·exact .inl rfl
  ·exact .inr (C_nr es h)
 | agg l =>
  obtain ⟨cs, h1, h2, h3⟩ := h
  refine ⟨cs, h1, by simp [h2], fun i x hi => ?_⟩
  rw [List.getElem?_map] at hi
  obtain ⟨y, hy, rfl⟩ := Option.map_eq_some_iff.1 hi
  obtain ⟨u, h4, h5⟩ := h3 i y hy
  exact ⟨u, h4, C_nr es h5⟩
theorem A_nr {E : Env} {m : Mem} {w : World} (es : Nat) {x : A} {u : Value} (h : ARep E m w x u) : ARep E m w (x.nr es) u := by
 cases x with
 | one v => exact V1_nr es h
 | tup l =>
  obtain ⟨cs, h1, h2, h3⟩ := h
  refine ⟨cs, h1, by simp [h2], fun i x hi => ?_⟩
  rw [List.getElem?_map] at hi
  obtain ⟨y, hy, rfl⟩ := Option.map_eq_some_iff.1 hi
  obtain ⟨u, h4, h5⟩ := h3 i y hy
  exact ⟨u, h4, V1_nr es h5⟩
theorem LValid.nr {f : FuncId} {args : List V1} {m : Mem} {R R' : A → Mem → Prop} (es : Nat) (h : LValid P f args m R) (hR : ∀ v m1, R v m1 → R' v m1 ∨ R' (v.nr es) m1) : LValid P f args m R' := fun E w vs hs hsz hr =>
 (h E w vs hs hsz hr).mono fun e w' ⟨u, v, m', E', a1, a2, a3, a4, a5⟩ => by
  rcases hR _ _ a2 with h1 | h1
  ·exact ⟨u, v, m', E', a1, h1, a3, a4, a5⟩
  ·exact ⟨u, v.nr es, m', E', a1, h1, A_nr es a3, by rw [A_nr_free]; exact a4, a5⟩
end
end Go.Proofs.Ytofdnnjkfpomcaa.E

/- The network as lists of packets: what its functions do to them. -/
namespace Go.Proofs.Ytofdnnjkfpomcaa.E
open Go
set_option linter.unusedVariables false
set_option maxRecDepth 100000

/-- The room of a row: pools, requests' queue, pools, answers' queue. -/
def roomC (o i : Int) (c : Nat) : Int := match c % 4 with
 | 0 => o
 | 1 => i
 | 2 => o
 | _ => 1
/-- What stands in rows, from row c on. -/
def FIs (n o i : Int) : Nat → List (List (List G)) → List (List PK) → Prop
 | c, L :: Ls, p :: ps => (isP L p ∧ okQ n p ∧ (p.length : Int) ≤ roomC o i c) ∧ FIs n o i (c + 1) Ls ps
 | _, [], [] => True
 | _, _, _ => False
theorem FIs.cons {n o i : Int} {c : Nat} {L : List (List G)} {Ls : List (List (List G))} {ps : List (List PK)} (h : FIs n o i c (L :: Ls) ps) : ∃ p r, ps = p :: r ∧ isP L p ∧ okQ n p ∧ (p.length : Int) ≤ roomC o i c ∧ FIs n o i (c + 1) Ls r := by
 cases ps with
 | nil => exact h.elim
 | cons p r => exact ⟨p, r, rfl, h.1.1, h.1.2.1, h.1.2.2, h.2⟩
theorem FIs.nil {n o i : Int} {c : Nat} {ps : List (List PK)} (h : FIs n o i c [] ps) : ps = [] := by
 cases ps with
 | nil => rfl
 | cons p r => exact h.elim
theorem FIs.set {n o i : Int} : ∀ (Ls : List (List (List G))) (ps : List (List PK)) (c j : Nat) (L : List (List G)) (p : List PK), FIs n o i c Ls ps → isP L p → okQ n p → (p.length : Int) ≤ roomC o i (c + j) → FIs n o i c (Ls.set j L) (ps.set j p)
 | [], [], c, j, L, p, h, _, _, _ => h
 | L0 :: Ls, p0 :: ps, c, 0, L, p, h, h1, h2, h3 => ⟨⟨h1, h2, h3⟩, h.2⟩
 | L0 :: Ls, p0 :: ps, c, j + 1, L, p, h, h1, h2, h3 => ⟨h.1, FIs.set Ls ps (c + 1) j L p h.2 h1 h2 (by rw [show c + 1 + j = c + (j + 1) by omega]; exact h3)⟩
 | [], _ :: _, _, _, _, _, h, _, _, _ => h.elim
 | _ :: _, [], _, _, _, _, h, _, _, _ => h.elim
theorem FIs.get {n o i : Int} : ∀ (Ls : List (List (List G))) (ps : List (List PK)) (c j : Nat) (p : List PK), FIs n o i c Ls ps → ps[j]? = some p → ∃ L, Ls[j]? = some L ∧ isP L p ∧ okQ n p ∧ (p.length : Int) ≤ roomC o i (c + j)
 | [], [], c, j, p, h, hp => by simp at hp
 | L0 :: Ls, p0 :: ps, c, 0, p, h, hp => by simp at hp; subst hp; exact ⟨L0, rfl, h.1⟩
 | L0 :: Ls, p0 :: ps, c, j + 1, p, h, hp => by
  obtain ⟨L, h1, h2⟩ := FIs.get Ls ps (c + 1) j p h.2 (by simpa using hp)
  rw [show c + 1 + j = c + (j + 1) by omega] at h2
  exact ⟨L, by simpa using h1, h2⟩
 | [], _ :: _, _, _, _, h, _ => h.elim
 | _ :: _, [], _, _, _, h, _ => h.elim
theorem FIs.length {n o i : Int} : ∀ (Ls : List (List (List G))) (ps : List (List PK)) (c : Nat), FIs n o i c Ls ps → Ls.length = ps.length
 | [], [], _, _ => rfl
 | L :: Ls, p :: ps, c, h => congrArg (· + 1) (FIs.length Ls ps (c + 1) h.2)
 | [], _ :: _, _, h => h.elim
 | _ :: _, [], _, h => h.elim
theorem FIs.at {n o i : Int} : ∀ (Ls : List (List (List G))) (ps : List (List PK)) (c j : Nat) (L : List (List G)), FIs n o i c Ls ps → Ls[j]? = some L → ∃ p, ps[j]? = some p ∧ isP L p ∧ okQ n p ∧ (p.length : Int) ≤ roomC o i (c + j)
 | [], [], c, j, L, h, hp => by simp at hp
 | L0 :: Ls, p0 :: ps, c, 0, L, h, hp => by simp at hp; subst hp; exact ⟨p0, rfl, h.1⟩
 | L0 :: Ls, p0 :: ps, c, j + 1, L, h, hp => by
  obtain ⟨p, h1, h2⟩ := FIs.at Ls ps (c + 1) j L h.2 (by simpa using hp)
  rw [show c + 1 + j = c + (j + 1) by omega] at h2
  exact ⟨p, by simpa using h1, h2⟩
 | [], _ :: _, _, _, _, h, _ => h.elim
 | _ :: _, [], _, _, _, h, _ => h.elim
theorem room_place (o i : Int) (q : PK) : roomC o i (0 + place q) = o := by
 unfold roomC place
 cases reqB q.k with
 | true =>
  have h : (0 + (4 * q.f.toNat + 0)) % 4 = 0 := by omega
  show (match (0 + (4 * q.f.toNat + 0)) % 4 with | 0 => o | 1 => i | 2 => o | _ => 1) = o
  rw [h]
  rfl
 | false =>
  have h : (0 + (4 * q.f.toNat + 2)) % 4 = 2 := by omega
  show (match (0 + (4 * q.f.toNat + 2)) % 4 with | 0 => o | 1 => i | 2 => o | _ => 1) = o
  rw [h]
  rfl
theorem room_dest (o i : Int) (q : PK) : roomC o i (0 + dest q) = roomQ i q := by
 unfold roomC dest roomQ
 cases reqB q.k with
 | true =>
  have h : (0 + (4 * q.t.toNat + 1)) % 4 = 1 := by omega
  show (match (0 + (4 * q.t.toNat + 1)) % 4 with | 0 => o | 1 => i | 2 => o | _ => 1) = i
  rw [h]
  rfl
 | false =>
  have h : (0 + (4 * q.t.toNat + 3)) % 4 = 3 := by omega
  show (match (0 + (4 * q.t.toNat + 3)) % 4 with | 0 => o | 1 => i | 2 => o | _ => 1) = 1
  rw [h]
  rfl
theorem place_even (q : PK) : place q % 2 = 0 := by
 unfold place
 split <;> omega
theorem dest_odd (q : PK) : dest q % 2 = 1 := by
 unfold dest
 split <;> omega
theorem okQ.add {n : Int} {ps : List PK} {q : PK} (h : okQ n ps) (h1 : sendB n q = true) (h2 : ∀ y ∈ q.d, -9223372036854775808 ≤ y ∧ y ≤ 9223372036854775807) : okQ n (ps ++ [q]) := fun r hr => by
 rcases List.mem_append.1 hr with hr | hr
 ·exact h r hr
 ·rw [List.mem_singleton.1 hr]; exact ⟨h1, h2⟩
theorem okQ.erase {n : Int} {ps : List PK} (h : okQ n ps) (j : Nat) : okQ n (ps.eraseIdx j) := fun r hr => h r (List.mem_of_mem_eraseIdx hr)
theorem okQ.tail {n : Int} {q : PK} {ps : List PK} (h : okQ n (q :: ps)) : okQ n ps := fun r hr => h r (List.mem_cons_of_mem _ hr)
/-- The pools among the rows. -/
def evens {α : Type} : List α → List α
 | a :: _ :: r => a :: evens r
 | [a] => [a]
 | [] => []
theorem evens_get {α : Type} : ∀ (l : List α) (j : Nat), (evens l)[j]? = l[2 * j]?
 | [], j => by simp [evens]
 | [a], 0 => rfl
 | [a], j + 1 => by simp [evens]
 | a :: b :: r, 0 => rfl
 | a :: b :: r, j + 1 => by
  rw [show 2 * (j + 1) = 2 * j + 1 + 1 by omega]
  simpa [evens] using evens_get r j
/-- How many packets stand in the first rows. -/
def lenTo : Nat → List (List PK) → Nat
 | i + 1, p :: r => p.length + lenTo i r
 | _, _ => 0
theorem lenTo_is {n o i : Int} : ∀ (k : Nat) (Ls : List (List (List G))) (ps : List (List PK)) (c : Nat), FIs n o i c Ls ps → sumLen k (evens Ls) = lenTo k (evens ps)
 | 0, Ls, ps, c, h => by
  have h1 : ∀ l, sumLen 0 l = 0 := fun l => by cases l <;> rfl
  have h2 : ∀ l, lenTo 0 l = 0 := fun l => by cases l <;> rfl
  rw [h1, h2]
 | k + 1, [], [], c, h => rfl
 | k + 1, [L], [p], c, h => by
  have h1 : ∀ k, sumLen k [] = 0 := fun l => by cases l <;> rfl
  have h2 : ∀ k, lenTo k [] = 0 := fun l => by cases l <;> rfl
  show L.length + sumLen k [] = p.length + lenTo k []
  rw [h.1.1.len, h1, h2]
 | k + 1, L :: M :: Ls, p :: q :: ps, c, h => by
  show L.length + sumLen k (evens Ls) = p.length + lenTo k (evens ps)
  rw [h.1.1.len, lenTo_is k Ls ps _ h.2.2]
 | _ + 1, [], _ :: _, _, h => h.elim
 | _ + 1, _ :: _, [], _, h => h.elim
 | _ + 1, [_], _ :: _ :: _, _, h => h.2.elim
 | _ + 1, _ :: _ :: _, [_], _, h => h.2.elim
/-- All packets under way. -/
def under (ps : List (List PK)) : List PK := (evens ps).flatten
theorem lenTo_all : ∀ (k : Nat) (l : List (List PK)), l.length ≤ k → lenTo k l = l.flatten.length
 | 0, [], _ => rfl
 | k + 1, [], _ => rfl
 | k + 1, p :: r, h => by
  show p.length + lenTo k r = (p ++ r.flatten).length
  rw [List.length_append, lenTo_all k r (by simpa using h)]
 | 0, _ :: _, h => by simp at h
/-- Send: code, rows behind it. -/
def SendR (n o : Int) (ps : List (List PK)) (q : PK) (t : Int) (ps' : List (List PK)) : Prop :=
 (t = 1 ∧ sendB n q = false ∧ ps' = ps) ∨ (sendB n q = true ∧ ∃ p, ps[place q]? = some p ∧ ((t = 5 ∧ (p.length : Int) = o ∧ ps' = ps) ∨ (t = 0 ∧ (p.length : Int) ≠ o ∧ ps' = ps.set (place q) (p ++ [q]))))
/-- Deliver: code, rows behind it. -/
def DelR (i : Int) (ps : List (List PK)) (z bit : Int) (mask : BitVec 16) (t : Int) (ps' : List (List PK)) : Prop :=
 (t = 3 ∧ (z < 0 ∨ (((under ps).length : Nat) : Int) ≤ z) ∧ ps' = ps) ∨
 ∃ (q n : Nat) (p : List PK) (r : PK), (evens ps)[q]? = some p ∧ p[n]? = some r ∧ z = ((lenTo q (evens ps) + n : Nat) : Int) ∧
  ((t = 2 ∧ wireB r bit mask = false ∧ ps' = ps) ∨ (wireB r bit mask = true ∧ ∃ pq, ps[dest r]? = some pq ∧
   ((t = 5 ∧ (pq.length : Int) = roomQ i r ∧ ps' = ps) ∨ (t = 0 ∧ (pq.length : Int) ≠ roomQ i r ∧ ps' = (ps.set (dest r) (pq ++ [r])).set (2 * q) (p.eraseIdx n)))))
/-- Take from a queue (k: 1 or 3): the packet, whether there is one, rows behind it. -/
def TakeR (n : Int) (ps : List (List PK)) (z : Int) (k : Nat) (r : PK) (b : Bool) (ps' : List (List PK)) : Prop :=
 (b = false ∧ r = PK.nought ∧ ps' = ps ∧ (belB z 0 n = false ∨ ∃ j : Nat, isN z j ∧ (j : Int) < n ∧ ps[4 * j + k]? = some [])) ∨
 (b = true ∧ ∃ (j : Nat) (p : List PK), isN z j ∧ (j : Int) < n ∧ ps[4 * j + k]? = some (r :: p) ∧ ps' = ps.set (4 * j + k) p)
/-- How many packets a row of a node has (k: which of its rows). -/
def NumR (n : Int) (ps : List (List PK)) (z : Int) (k : Nat) (t : Int) : Prop :=
 (belB z 0 n = false ∧ t = 0) ∨ ∃ (j : Nat) (p : List PK), isN z j ∧ (j : Int) < n ∧ ps[4 * j + k]? = some p ∧ isN t p.length
/-- A network of n nodes, all of its rows named anew at the end. -/
def fabD (o i : Int) : Nat → Nat → Mem
 | b, n + 1 => qu o (.row b 9 none) :: .dead :: qu i (.row (b + 1) 9 none) :: .dead :: qu o (.row (b + 2) 9 none) :: .dead :: qu 1 (.row (b + 3) 9 none) :: .dead :: fabD o i (b + 4) n
 | _, 0 => []
def rowsAt : List (List (List G)) → Mem
 | L :: r => .sym 9 L :: rowsAt r
 | [] => []
def fabU (o i : Int) (n : Nat) (Ls : List (List (List G))) : Mem := .lit 1 [[.row 1 4 none]] :: .lit 4 (fabP 2 n) :: (fabD o i (2 + 8 * n) n ++ rowsAt Ls)
/-- As 'LValid.postF', told by computation. -/
theorem LValid.postB {P : Program} {I : Ints} {f : FuncId} {args : List V1} {m : Mem} {R R' : A → Mem → Prop} (hI : I = ints) (h : LValid P f args m R)
  (hR : ∀ v m1, R v m1 → ∃ σ fz : List Nat, decide σ.Nodup = true ∧ ((List.range m.length).all fun id => match σ[id]? with | some b => b == id || decide (m1.length ≤ b) | none => false) = true ∧ (v.inv I σ (.frz fz) m1).free = true ∧ (invMem I σ (.frz fz) m1).all Blk.free = true ∧ R' (v.inv I σ (.frz fz) m1) (invMem I σ (.frz fz) m1)) : LValid P f args m R' :=
 LValid.postF hI h fun v m1 hv => by
  obtain ⟨σ, fz, h1, h2, h3⟩ := hR v m1 hv
  refine ⟨σ, fz, of_decide_eq_true h1, fun id hid => ?_, h3⟩
  have h4 := List.all_eq_true.1 h2 id (List.mem_range.2 hid)
  cases hq : σ[id]? with
  | none => rw [hq] at h4; cases h4
  | some b =>
   rw [hq] at h4
   exact ⟨b, rfl, by simpa using h4⟩
end Go.Proofs.Ytofdnnjkfpomcaa.E

/- The memory of fabric.New between rounds. -/
namespace Go.Proofs.Ytofdnnjkfpomcaa.E
open Go
set_option linter.unusedVariables false

def newC (n a1 a2 a3 a4 ou inn : Int) (l : List (List G)) : Blk := .lit 8 [[.g (.int .i64 (.sym n)), .g (.int .i64 (.sym a1)), .g (.int .i64 (.sym a2)), .g (.int .i64 (.sym a3)), .g (.int .i64 (.sym a4)), .g (.int .i64 (.sym ou)), .g (.int .i64 (.sym inn)), .bor 1 l]]
def newM (n a1 a2 a3 a4 ou inn : Int) (l : List (List G)) (ro ri : Int) : Nat → Mem
 | 0 => [newC n a1 a2 a3 a4 ou inn l, .lit 1 [[.g .nil]]]
 | j + 1 => newC n a1 a2 a3 a4 ou inn l :: .lit 1 [[.row 2 4 none]] :: .lit 4 (fabP 3 (j + 1)) :: fabB ro ri 3 (List.replicate (4 * (j + 1)) [])
/-- A network told from block s on. -/
def fabS (s : Nat) (o i : Int) (n : Nat) (Ls : List (List (List G))) : Mem := .lit 1 [[.row (s + 1) 4 none]] :: .lit 4 (fabP (s + 2) n) :: fabB o i (s + 2) Ls
theorem isP_nil : isP [] [] := rfl
theorem okQ_nil (n : Int) : okQ n [] := fun q hq => by cases hq
end Go.Proofs.Ytofdnnjkfpomcaa.E

/- Plain laws of the network told by lists: one packet's way; how many there are. -/
namespace Go.Proofs.Ytofdnnjkfpomcaa.E
open Go
set_option linter.unusedVariables false
set_option maxRecDepth 100000

theorem FIs.nils {n o i : Int} (ho : 0 ≤ o) (hi : 0 ≤ i) : ∀ (k c : Nat), FIs n o i c (List.replicate k []) (List.replicate k [])
 | 0, _ => trivial
 | k + 1, c => ⟨⟨isP_nil, okQ_nil n, by
   show (0 : Int) ≤ roomC o i c
   unfold roomC
   split <;> omega⟩, FIs.nils ho hi k (c + 1)⟩
/-- One packet, in row c of K. -/
def one (K c : Nat) (q : PK) : List (List PK) := (List.replicate K []).set c [q]
theorem one_get {K c : Nat} {q : PK} (hc : c < K) {j : Nat} {p : List PK} (h : (one K c q)[j]? = some p) : (j = c ∧ p = [q]) ∨ (j ≠ c ∧ p = []) := by
 unfold one at h
 rw [List.getElem?_set] at h
 by_cases hj : c = j
 ·subst hj
  simp [hc] at h
  exact .inl ⟨rfl, h.symm⟩
 ·rw [if_neg hj, List.getElem?_replicate] at h
  split at h
  ·simp at h
   exact .inr ⟨fun e => hj e.symm, h⟩
  ·cases h
theorem under_rep : ∀ K, under (List.replicate K []) = []
 | 0 => rfl
 | 1 => rfl
 | K + 2 => by
  have := under_rep K
  unfold under at this ⊢
  show ([] : List PK) ++ (evens (List.replicate K [])).flatten = []
  rw [this]
  rfl
theorem under_one (q : PK) : ∀ (c K : Nat), c < K → under (one K c q) = if c % 2 = 0 then [q] else []
 | 0, 1, _ => rfl
 | 0, K + 2, _ => by
  have := under_rep K
  unfold under at this ⊢
  show [q] ++ (evens (List.replicate K [])).flatten = _
  rw [this]
  rfl
 | 1, K + 2, _ => by
  have := under_rep K
  unfold under at this ⊢
  show [] ++ (evens (List.replicate K [])).flatten = _
  rw [this]
  rfl
 | c + 2, K + 2, h => by
  have := under_one q c K (by omega)
  rw [show (c + 2) % 2 = c % 2 by omega, ← this]
  rfl
theorem one_move {K c d : Nat} {q : PK} (hc : c < K) (hd : d < K) (hne : c ≠ d) : ((one K c q).set d [q]).set c [] = one K d q := by
 unfold one
 refine List.ext_getElem? fun j => ?_
 simp only [List.getElem?_set, List.length_set, List.length_replicate, List.getElem?_replicate]
 by_cases h1 : c = j
 ·subst h1
  simp only [hc, if_pos, if_neg (show ¬ d = c from fun e => hne e.symm)]
 ·by_cases h2 : d = j
  ·subst h2
   simp [h1, hd]
  ·simp [h1, h2]
theorem place_lt {n : Int} {q : PK} {N : Nat} (hn : n = (N : Int)) (h : sendB n q = true) : place q < 4 * N ∧ dest q < 4 * N := by
 unfold sendB belB at h
 simp only [Bool.and_eq_true, decide_eq_true_eq] at h
 unfold place dest
 constructor <;> split <;> omega
theorem way_send {n o : Int} {q : PK} {N : Nat} {t : Int} {ps : List (List PK)} (ho : 1 ≤ o) (hs : sendB n q = true) (h : SendR n o (List.replicate (4 * N) []) q t ps) : t = 0 ∧ ps = one (4 * N) (place q) q := by
 rcases h with ⟨_, h, _⟩ | ⟨_, p, hp, ⟨_, h, _⟩ | ⟨h1, _, h2⟩⟩
 ·rw [hs] at h; cases h
 ·rw [List.getElem?_replicate] at hp
  split at hp
  ·cases hp
   simp at h
   omega
  ·cases hp
 ·rw [List.getElem?_replicate] at hp
  split at hp
  ·cases hp
   exact ⟨h1, h2⟩
  ·cases hp
theorem way_del {i bit : Int} {mask : BitVec 16} {q : PK} {K t : Nat} {e : Int} {ps : List (List PK)} (hi : 1 ≤ i) (hc : place q < K) (hd : dest q < K) (h : DelR i (one K (place q) q) 0 bit mask e ps) :
  (wireB q bit mask = false → e = 2 ∧ ps = one K (place q) q) ∧ (wireB q bit mask = true → e = 0 ∧ ps = one K (dest q) q) := by
 have hpe := place_even q
 have hdo := dest_odd q
 rcases h with ⟨_, h, _⟩ | ⟨a, n, p, r, ha, hr, hz, h⟩
 ·rw [under_one q _ _ hc, if_pos hpe] at h
  simp at h
 ·rw [evens_get] at ha
  rcases one_get hc ha with ⟨h1, rfl⟩ | ⟨_, rfl⟩
  ·have hn : n = 0 := by
    have := (List.getElem?_eq_some_iff.1 hr).1
    simp at this
    exact this
   subst hn
   simp at hr
   subst hr
   rcases h with ⟨g1, g2, g3⟩ | ⟨g2, pq, g3, g4⟩
   ·exact ⟨fun _ => ⟨g1, g3⟩, fun g => absurd (g2.symm.trans g) (by decide)⟩
   ·refine ⟨fun g => absurd (g2.symm.trans g) (by decide), fun _ => ?_⟩
    rcases one_get hc g3 with ⟨k1, _⟩ | ⟨_, rfl⟩
    ·omega
    ·rcases g4 with ⟨_, k, _⟩ | ⟨k1, _, k3⟩
     ·exfalso
      unfold roomQ at k
      simp at k
      split at k <;> omega
     ·refine ⟨k1, ?_⟩
      rw [k3, h1]
      exact one_move hc hd (by omega)
  ·simp at hr
/-- Where the packet waits: which row of its receiver. -/
def sortK (q : PK) : Nat := if reqB q.k then 1 else 3
theorem dest_is (q : PK) : dest q = 4 * q.t.toNat + sortK q := rfl
theorem way_take {n : Int} {N : Nat} (hn : n = (N : Int)) {q r : PK} {k : Nat} {b : Bool} {ps : List (List PK)} (hs : sendB n q = true) (h : TakeR n (one (4 * N) (dest q) q) q.t k r b ps) :
  (k = sortK q → b = true ∧ r = q ∧ ps = List.replicate (4 * N) []) ∧ (k ≠ sortK q → b = false ∧ ps = one (4 * N) (dest q) q) := by
 have hd := (place_lt hn hs).2
 have hb : belB q.t 0 n = true := by unfold sendB at hs; simp only [Bool.and_eq_true] at hs; exact hs.2
 rcases h with ⟨h1, h2, h3, h4⟩ | ⟨h1, j, p, hj, hjn, hp, h2⟩
 ·refine ⟨fun hk => ?_, fun _ => ⟨h1, h3⟩⟩
  rcases h4 with h4 | ⟨j, hj, hjn, hp⟩
  ·rw [hb] at h4; cases h4
  ·have hjt : q.t.toNat = j := by unfold isN at hj; omega
   rcases one_get hd hp with ⟨_, h5⟩ | ⟨h5, _⟩
   ·cases h5
   ·rw [dest_is] at h5
    omega
 ·have hjt : q.t.toNat = j := by unfold isN at hj; omega
  rcases one_get hd hp with ⟨h5, h6⟩ | ⟨_, h6⟩
  ·cases h6
   refine ⟨fun _ => ⟨h1, rfl, ?_⟩, fun hk => absurd (by rw [dest_is] at h5; omega) hk⟩
   rw [h2, h5]
   unfold one
   refine List.ext_getElem? fun x => ?_
   simp only [List.getElem?_set, List.length_set, List.length_replicate, List.getElem?_replicate]
   by_cases h1 : dest q = x
   ·subst h1
    simp [hd]
   ·simp [h1]
  ·cases h6
/-! ### How many -/
def cnt (ps : List (List PK)) : Nat := ps.flatten.length
theorem cnt_set : ∀ (ps : List (List PK)) (c : Nat) (p p' : List PK), ps[c]? = some p → cnt (ps.set c p') + p.length = cnt ps + p'.length
 | [], c, p, p', h => by simp at h
 | a :: ps, 0, p, p', h => by
  simp at h
  subst h
  simp [cnt]
  omega
 | a :: ps, c + 1, p, p', h => by
  have := cnt_set ps c p p' (by simpa using h)
  simp [cnt] at this ⊢
  omega
theorem cnt_send {n o : Int} {q : PK} {t : Int} {ps ps' : List (List PK)} (h : SendR n o ps q t ps') : (t = 0 ∧ cnt ps' = cnt ps + 1) ∨ (t ≠ 0 ∧ cnt ps' = cnt ps) := by
 rcases h with ⟨h, _, rfl⟩ | ⟨_, p, hp, ⟨h, _, rfl⟩ | ⟨h, _, rfl⟩⟩
 ·exact .inr ⟨by omega, rfl⟩
 ·exact .inr ⟨by omega, rfl⟩
 ·have := cnt_set ps (place q) p (p ++ [q]) hp
  rw [List.length_append] at this
  simp at this
  exact .inl ⟨h, by omega⟩
theorem cnt_del {i z bit : Int} {mask : BitVec 16} {t : Int} {ps ps' : List (List PK)} (h : DelR i ps z bit mask t ps') : cnt ps' = cnt ps := by
 rcases h with ⟨_, _, rfl⟩ | ⟨a, n, p, r, ha, hr, hz, ⟨_, _, rfl⟩ | ⟨_, pq, hp, ⟨_, _, rfl⟩ | ⟨_, _, rfl⟩⟩⟩
 ·rfl
 ·rfl
 ·rfl
 ·rw [evens_get] at ha
  have hdo := dest_odd r
  have h1 := cnt_set ps (dest r) pq (pq ++ [r]) hp
  have h2 := cnt_set (ps.set (dest r) (pq ++ [r])) (2 * a) p (p.eraseIdx n) (by rw [List.getElem?_set, if_neg (by omega)]; exact ha)
  have hn := (List.getElem?_eq_some_iff.1 hr).1
  rw [List.length_eraseIdx, if_pos hn] at h2
  rw [List.length_append] at h1
  simp at h1
  omega
theorem cnt_take {n z : Int} {k : Nat} {r : PK} {b : Bool} {ps ps' : List (List PK)} (h : TakeR n ps z k r b ps') : (b = true ∧ cnt ps' + 1 = cnt ps) ∨ (b = false ∧ cnt ps' = cnt ps) := by
 rcases h with ⟨h1, h2, rfl, h4⟩ | ⟨h1, j, p, hj, hjn, hp, rfl⟩
 ·exact .inr ⟨h1, rfl⟩
 ·have := cnt_set ps (4 * j + k) (r :: p) p hp
  simp at this
  exact .inl ⟨h1, by omega⟩
/-- How many wait at the first nodes. -/
def wsum : Nat → List (List PK) → Nat
 | k + 1, _ :: b :: _ :: d :: r => b.length + d.length + wsum k r
 | _, _ => 0
theorem wsum_step : ∀ (k : Nat) (ps : List (List PK)) (b d : List PK), ps[4 * k + 1]? = some b → ps[4 * k + 3]? = some d → wsum (k + 1) ps = wsum k ps + (b.length + d.length)
 | 0, a :: b' :: c :: d' :: r, b, d, h1, h2 => by
  simp at h1 h2
  subst h1 h2
  have h : ∀ r, wsum 0 r = 0 := fun r => by cases r <;> rfl
  show b'.length + d'.length + wsum 0 r = wsum 0 _ + _
  rw [h, h]
  omega
 | k + 1, a :: b' :: c :: d' :: r, b, d, h1, h2 => by
  have := wsum_step k r b d (by rw [show 4 * (k + 1) + 1 = 4 * k + 1 + 1 + 1 + 1 + 1 by omega] at h1; simpa using h1) (by rw [show 4 * (k + 1) + 3 = 4 * k + 3 + 1 + 1 + 1 + 1 by omega] at h2; simpa using h2)
  show b'.length + d'.length + wsum (k + 1) r = b'.length + d'.length + wsum k r + (b.length + d.length)
  omega
 | k, [], b, d, h1, h2 => by simp at h1
 | k, [_], b, d, h1, h2 => by
  rw [show 4 * k + 1 = (4 * k) + 1 by omega] at h1
  simp at h1
 | k, [_, _], b, d, h1, h2 => by
  rw [show 4 * k + 3 = (4 * k + 1) + 1 + 1 by omega] at h2
  simp at h2
 | k, [_, _, _], b, d, h1, h2 => by
  rw [show 4 * k + 3 = (4 * k) + 1 + 1 + 1 by omega] at h2
  simp at h2
theorem wsum_all : ∀ (n : Nat) (ps : List (List PK)), ps.length = 4 * n → wsum n ps + (under ps).length = cnt ps
 | 0, [], _ => rfl
 | 0, _ :: _, h => by simp at h
 | n + 1, a :: b :: c :: d :: r, h => by
  have := wsum_all n r (by simp at h; omega)
  unfold under cnt at this ⊢
  show b.length + d.length + wsum n r + (a ++ (c ++ (evens r).flatten)).length = (a ++ (b ++ (c ++ (d ++ r.flatten)))).length
  simp only [List.length_append]
  omega
 | n + 1, [], h => by simp at h
 | n + 1, [_], h => by simp at h; omega
 | n + 1, [_, _], h => by simp at h; omega
 | n + 1, [_, _, _], h => by simp at h; omega
theorem under_le {n o i : Int} : ∀ (k : Nat) (Ls : List (List (List G))) (ps : List (List PK)) (c : Nat), c % 2 = 0 → ps.length = 2 * k → FIs n o i c Ls ps → (((under ps).length : Nat) : Int) ≤ o * (k : Int)
 | 0, _, [], _, _, _, _ => by simp [under, evens]
 | 0, _, _ :: _, _, _, h, _ => by simp at h
 | k + 1, [], a :: b :: r, c, _, _, h => h.elim
 | k + 1, [_], a :: b :: r, c, _, _, h => h.2.elim
 | k + 1, L :: M :: Ls, a :: b :: r, c, hc, hl, h => by
  have := under_le k Ls r (c + 1 + 1) (by omega) (by simp at hl; omega) h.2.2
  have h1 := h.1.2.2
  have h2 : (a.length : Int) ≤ o := by
   unfold roomC at h1
   rcases (show c % 4 = 0 ∨ c % 4 = 2 by omega) with e | e <;> rw [e] at h1 <;> exact h1
  unfold under at this ⊢
  show (((a ++ (evens r).flatten).length : Nat) : Int) ≤ o * ((k + 1 : Nat) : Int)
  rw [List.length_append]
  push_cast
  rw [Int.mul_add]
  omega
 | k + 1, _, [], _, _, h, _ => by simp at h
 | k + 1, _, [_], _, _, h, _ => by simp at h; omega
end Go.Proofs.Ytofdnnjkfpomcaa.E

/- The network told by lists: what serves all numbers of nodes. -/
namespace Go.Proofs.Ytofdnnjkfpomcaa.E
open Go
set_option linter.unusedVariables false
set_option maxRecDepth 100000

/-- A list of names, carried by a hypothesis. -/
inductive Kp (σ : List Nat) : Prop where
 | mk
abbrev sOf {σ : List Nat} (_ : Kp σ) : List Nat := σ
/-- Rows behind a call: as they were, or one of them moved, or a queue's and a pool's. -/
def Mv (N : Nat) (n o i : Int) (Ls : List (List (List G))) (ps : List (List PK)) (m : Mem) : Prop :=
 (FIs n o i 0 Ls ps ∧ m = fabM o i N Ls) ∨ (∃ (c : Nat) (L : List (List G)), c < 4 * N ∧ FIs n o i 0 (Ls.set c L) ps ∧ m = mv (fabM o i N Ls) c (roomC o i c) L) ∨
 (∃ (c q : Nat) (L L' : List (List G)), c % 2 = 1 ∧ c < 4 * N ∧ q < 2 * N ∧ FIs n o i 0 ((Ls.set c L).set (2 * q) L') ps ∧ m = mv (mv (fabM o i N Ls) c (roomC o i c) L) (2 * q) o L')
def sgA : Nat → Nat → List Nat
 | c, n + 1 => (2 + 2 * c) :: (1000 + c) :: sgA (c + 1) n
 | _, 0 => []
def sgB (B c q : Nat) : Nat → Nat → List Nat
 | j, n + 1 => (if j = q then B + 1 else if j = c then B else 3 + 2 * j) :: sgB B c q (j + 1) n
 | _, 0 => []
/-- Names of a network's blocks, its rows named anew. -/
def sgU (N c q : Nat) : List Nat := 0 :: 1 :: (sgA 0 (4 * N) ++ sgB (2 + 8 * N) c q 0 (4 * N))
theorem FIs.cons2 {n o i : Int} {c : Nat} {L : List (List G)} {Ls : List (List (List G))} {ps : List (List PK)} (h1 : o ≤ 999999) (g1 : i ≤ 999999) (h : FIs n o i c (L :: Ls) ps) : ∃ p r, ps = p :: r ∧ isP L p ∧ okQ n p ∧ L.length ≤ 1000000 ∧ FIs n o i (c + 1) Ls r := by
 obtain ⟨p, r, e, a, b, d, f⟩ := h.cons
 refine ⟨p, r, e, a, b, ?_, f⟩
 rw [a.len]
 unfold roomC at d
 split at d <;> omega
theorem cons_len {α : Type} {l : List α} {n : Nat} (h : l.length = n + 1) : ∃ a r, l = a :: r ∧ r.length = n := by
 cases l with
 | nil => simp at h
 | cons a r => exact ⟨a, r, rfl, by simpa using h⟩
theorem send_yes {n o i : Int} {N : Nat} {Ls : List (List (List G))} {ps : List (List PK)} (hn : n = (N : Int)) (hlen : ps.length = 4 * N) (hF : FIs n o i 0 Ls ps) (ho : o ≤ 999999) {q : PK} {D : List (List G)} (hD : isL .i64 D q.d) (hdy : ∀ y ∈ q.d, -9223372036854775808 ≤ y ∧ y ≤ 9223372036854775807) (hs : sendB n q = true) :
  ∃ p Lp, Ls[place q]? = some Lp ∧ Lp.length ≤ 1000000 ∧ ((Lp.length : Int) = o → SendR n o ps q 5 ps) ∧ (∀ L', (Lp.length : Int) ≠ o → L' = Lp ++ [q.row D] → SendR n o ps q 0 (ps.set (place q) (p ++ [q])) ∧ FIs n o i 0 (Ls.set (place q) L') (ps.set (place q) (p ++ [q]))) := by
 have hlt := (place_lt hn hs).1
 have hp : ps[place q]? = some (ps[place q]'(by omega)) := List.getElem?_eq_getElem _
 generalize ps[place q]'(by omega) = p at hp
 obtain ⟨Lp, q1, q2, q3, q4⟩ := hF.get _ _ _ _ _ hp
 rw [room_place] at q4
 refine ⟨p, Lp, q1, by rw [q2.len]; omega, fun h => .inr ⟨hs, p, hp, .inl ⟨rfl, by rw [← q2.len]; exact h, rfl⟩⟩, fun L' h h2 => ?_⟩
 rw [q2.len] at h
 refine ⟨.inr ⟨hs, p, hp, .inr ⟨rfl, h, rfl⟩⟩, hF.set _ _ _ _ _ _ (by rw [h2]; exact q2.add hD) (q3.add hs hdy) (by rw [room_place, List.length_append]; show ((p.length + 1 : Nat) : Int) ≤ o; omega)⟩
theorem take_yes {n o i : Int} {Ls : List (List (List G))} {ps : List (List PK)} (hF : FIs n o i 0 Ls ps) {c : Nat} {p : List PK} {r : PK} {L' : List (List G)} (h1 : ps[c]? = some p) (h2 : p[0]? = some r) (h3 : isP L' (p.eraseIdx 0)) :
  ∃ p', ps[c]? = some (r :: p') ∧ FIs n o i 0 (Ls.set c L') (ps.set c p') ∧ okQ n [r] := by
 cases p with
 | nil => cases h2
 | cons r0 p =>
  cases h2
  obtain ⟨Lp, u1, u2, u3, u4⟩ := hF.get _ _ _ _ _ h1
  exact ⟨p, h1, hF.set _ _ _ _ _ _ h3 u3.tail (by have h : ((p.length + 1 : Nat) : Int) ≤ _ := u4; omega), fun x hx => by rw [List.mem_singleton.1 hx]; exact u3 _ (List.mem_cons_self ..)⟩
theorem del_yes {n o i : Int} {Ls : List (List (List G))} {ps : List (List PK)} (hF : FIs n o i 0 Ls ps) {q k : Nat} {p pq : List PK} {r : PK} {z bit : Int} {mask : BitVec 16} {X1 X2 Lq : List (List G)} (h1 : (evens ps)[q]? = some p) (h2 : p[k]? = some r) (h3 : z = ((lenTo q (evens ps) + k : Nat) : Int)) (hw : wireB r bit mask = true)
  (h4 : ps[dest r]? = some pq) (h5 : Ls[dest r]? = some Lq) (h6 : (Lq.length : Int) ≠ roomQ i r) (h7 : isP X1 (pq ++ [r])) (h8 : isP X2 (p.eraseIdx k)) :
  DelR i ps z bit mask 0 ((ps.set (dest r) (pq ++ [r])).set (2 * q) (p.eraseIdx k)) ∧ FIs n o i 0 ((Ls.set (dest r) X1).set (2 * q) X2) ((ps.set (dest r) (pq ++ [r])).set (2 * q) (p.eraseIdx k)) := by
 obtain ⟨p', q1, q2, q3, q4⟩ := hF.at _ _ _ _ _ h5
 obtain rfl : p' = pq := Option.some.inj (q1.symm.trans h4)
 rw [q2.len] at h6
 rw [room_dest] at q4
 have h1' := h1
 rw [evens_get] at h1
 obtain ⟨Lp, u1, u2, u3, u4⟩ := hF.get _ _ _ _ _ h1
 obtain ⟨hs, hdy⟩ := u3 r (List.mem_of_getElem? h2)
 refine ⟨.inr ⟨q, k, p, r, h1', h2, h3, .inr ⟨hw, p', h4, .inr ⟨rfl, h6, rfl⟩⟩⟩, ?_⟩
 have hset := hF.set _ _ _ (dest r) X1 (p' ++ [r]) h7 (q3.add hs hdy) (by rw [room_dest, List.length_append]; show ((p'.length + 1 : Nat) : Int) ≤ _; omega)
 exact hset.set _ _ _ (2 * q) X2 (p.eraseIdx k) h8 (u3.erase k) (by have := List.length_eraseIdx_le p k; omega)
theorem sumLen_add {I : Ints} (hI : I = ints) {l : List (List (List G))} {y x : Int} {j : Nat} {L : List (List G)} (hy : isN y (sumLen j l)) (hL : l[j]? = some L) (hx : x = ((L.length : Nat) : Int)) (hb : sumLen (j + 1) l ≤ 100000000) : isN (I.bin .add .i64 y x) (sumLen (j + 1) l) := by
 rw [sumLen_step j l L hL] at hb ⊢
 unfold isN at hy ⊢
 rw [hI, hx]
 simp only [ints, rBin]
 rw [wrap_in] <;> omega
theorem sumLen_bound : ∀ (l : List (List (List G))) (j k : Nat), (∀ L ∈ l, L.length ≤ k) → sumLen j l ≤ j * k
 | l, 0, k, h => by
  rw [show sumLen 0 l = 0 by cases l <;> rfl]
  exact Nat.zero_le _
 | [], j + 1, k, h => Nat.zero_le _
 | L :: l, j + 1, k, h => by
  have h1 := sumLen_bound l j k (fun M hM => h M (List.mem_cons_of_mem _ hM))
  have h2 := h L (List.mem_cons_self ..)
  show L.length + sumLen j l ≤ (j + 1) * k
  rw [Nat.succ_mul]
  omega
/-- What a queue gives, as the walk tells it. -/
def TakeV (n : Int) (ps : List (List PK)) (z : Int) (k : Nat) (v : A) (ps' : List (List PK)) : Prop := ∃ (r : PK) (b : Bool) (D : List (List G)), v = .tup [r.told (.g (.rows 1 D)), gb b] ∧ isL .i64 D r.d ∧ TakeR n ps z k r b ps' ∧ (b = true → okQ n [r])
def TakeW (n : Int) (ps : List (List PK)) (z : Int) (k : Nat) (v : A) (ps' : List (List PK)) : Prop :=
 ((v = .tup [noughtL, .c (.g (.bool (.lit false)))] ∨ v = .tup [PK.nought.told (.g .nil), gb false]) ∧ ps' = ps ∧ (belB z 0 n = false ∨ ∃ j : Nat, isN z j ∧ (j : Int) < n ∧ ps[4 * j + k]? = some [])) ∨
 ∃ (r : PK) (D : List (List G)) (p : List PK) (j : Nat), v = .tup [r.told (.g (.rows 1 D)), gb true] ∧ isL .i64 D r.d ∧ isN z j ∧ (j : Int) < n ∧ ps[4 * j + k]? = some (r :: p) ∧ ps' = ps.set (4 * j + k) p ∧ okQ n [r]
theorem takeW {P : Program} {f : FuncId} {args : List V1} {m : Mem} {n : Int} {ps : List (List PK)} {z : Int} {k : Nat} {X : List (List PK) → Mem → Prop} (h : LValid P f args m (fun v m1 => ∃ ps', TakeW n ps z k v ps' ∧ X ps' m1)) : LValid P f args m (fun v m1 => ∃ ps', TakeV n ps z k v ps' ∧ X ps' m1) := by
 refine LValid.nr (R := fun v m1 => ∃ ps', ((v = .tup [PK.nought.told (.g .nil), gb false] ∧ ps' = ps ∧ (belB z 0 n = false ∨ ∃ j : Nat, isN z j ∧ (j : Int) < n ∧ ps[4 * j + k]? = some [])) ∨ TakeV n ps z k v ps') ∧ X ps' m1) 1 (LValid.syv h ?_) ?_
 ·rintro v m1 ⟨ps', ⟨rfl | rfl, h1, h2⟩ | ⟨r, D, p, j, rfl, h1, h2, h3, h4, h5, h6⟩, hX⟩
  ·exact ⟨ps', .inl ⟨rfl, h1, h2⟩, hX⟩
  ·exact ⟨ps', .inl ⟨rfl, h1, h2⟩, hX⟩
  ·exact ⟨ps', .inr ⟨r, true, D, rfl, h1, .inr ⟨rfl, j, p, h2, h3, h4, h5⟩, fun _ => h6⟩, hX⟩
 ·rintro v m1 ⟨ps', ⟨rfl, h1, h2⟩ | h1, hX⟩
  ·exact .inr ⟨ps', ⟨PK.nought, false, [], rfl, rfl, .inl ⟨rfl, rfl, h1, h2⟩, fun h => by cases h⟩, hX⟩
  ·exact .inl ⟨ps', h1, hX⟩
end Go.Proofs.Ytofdnnjkfpomcaa.E

/- The network of 1 nodes: contracts told by lists of packets. -/
namespace Go.Proofs.Ytofdnnjkfpomcaa.E
open Go
set_option linter.unusedVariables false
set_option maxRecDepth 100000
theorem lets1 {P : Program} {f : FuncId} {args : List V1} {m : Mem} {o i : Int} {Q : A → List (List PK) → Prop} (h : LValid P f args m (fun v m1 => ∃ (Ms : List (List (List G))) (ps' : List (List PK)), Ms.length = 4 ∧ Q v ps' ∧ FIs 1 o i 0 Ms ps' ∧ m1 = fabU o i 1 Ms)) :
  LValid P f args m (fun v m1 => ∃ (M0 M1 M2 M3 : List (List G)) (ps' : List (List PK)), Q v ps' ∧ FIs 1 o i 0 [M0, M1, M2, M3] ps' ∧ m1 = fabU o i 1 [M0, M1, M2, M3]) :=
 h.mono fun v m1 ⟨Ms, ps', h1⟩ => by
  have hl := h1.1
  obtain ⟨M0, N0, rfl, q0⟩ := cons_len hl
  obtain ⟨M1, N1, rfl, q1⟩ := cons_len q0
  obtain ⟨M2, N2, rfl, q2⟩ := cons_len q1
  obtain ⟨M3, N3, rfl, q3⟩ := cons_len q2
  obtain rfl := List.length_eq_zero_iff.1 q3
  exact ⟨M0, M1, M2, M3, ps', h1.2⟩
set_option maxHeartbeats 64000000 in
theorem up1 {P : Program} {f : FuncId} {args : List V1} {o i : Int} {L0 L1 L2 L3 : List (List G)} {Q : A → List (List PK) → Prop} (hQ : ∀ (I : Ints) (v : A) (ps : List (List PK)), Q v ps → v.free = true ∧ ∀ σ m, v.inv I σ (.frz []) m = v)
  (h : LValid P f args (fabM o i 1 [L0, L1, L2, L3]) (fun v m1 => ∃ ps', Q v ps' ∧ Mv 1 1 o i [L0, L1, L2, L3] ps' m1)) :
  LValid P f args (fabM o i 1 [L0, L1, L2, L3]) (fun v m1 => ∃ (M0 M1 M2 M3 : List (List G)) (ps' : List (List PK)), Q v ps' ∧ FIs 1 o i 0 [M0, M1, M2, M3] ps' ∧ m1 = fabU o i 1 [M0, M1, M2, M3]) := by
 obtain ⟨I, hI⟩ := ref
 refine lets1 (LValid.postB hI h ?_)
 rintro v m1 ⟨ps', hq, ⟨hF, rfl⟩ | ⟨c, X, hc, hF, rfl⟩ | ⟨c, q, X, X', hod, hc, hqk, hF, rfl⟩⟩
 ·obtain ⟨q1, q2⟩ := hQ I v ps' hq
  refine ⟨sgU 1 999 999, [], by kernel_rfl, by kernel_rfl, ?_⟩
  rw [q2]
  exact ⟨q1, by kernel_rfl, [L0, L1, L2, L3], ps', rfl, hq, hF, by kernel_rfl⟩
 ·obtain ⟨q1, q2⟩ := hQ I v ps' hq
  have hk : Kp (sgU 1 c 999) := ⟨⟩
  have hl : (List.set [L0, L1, L2, L3] c X).length = 4 := by rw [List.length_set]; rfl
  have hcs : c = 0 ∨ c = 1 ∨ c = 2 ∨ c = 3 := by omega
  clear hc
  rcases hcs with rfl | rfl | rfl | rfl
  all_goals
   refine ⟨sOf hk, [], by kernel_rfl, by kernel_rfl, ?_⟩
   rw [q2]
   exact ⟨q1, by kernel_rfl, _, ps', hl, hq, hF, by kernel_rfl⟩
 ·obtain ⟨q1, q2⟩ := hQ I v ps' hq
  have hk : Kp (sgU 1 c (2 * q)) := ⟨⟩
  have hl : ((List.set [L0, L1, L2, L3] c X).set (2 * q) X').length = 4 := by rw [List.length_set, List.length_set]; rfl
  have hcs : c = 1 ∨ c = 3 := by omega
  have hqs : q = 0 ∨ q = 1 := by omega
  clear hc hod hqk
  rcases hcs with rfl | rfl <;> rcases hqs with rfl | rfl
  all_goals
   refine ⟨sOf hk, [], by kernel_rfl, by kernel_rfl, ?_⟩
   rw [q2]
   exact ⟨q1, by kernel_rfl, _, ps', hl, hq, hF, by kernel_rfl⟩
section
variable {P : Program} (hp : P = Try.prog)
include hp
theorem is1 (z : Z) (o i : Int) (L0 L1 L2 L3 : List (List G)) : LValid P 31 [.c (.ptr 0 (.lit 0) 1 0), .c (.g (.int .i64 z))] (fabM o i 1 [L0, L1, L2, L3]) (fun v m1 => ∃ t, t = belB z.val 0 1 ∧ v = boo t ∧ m1 = (fabM o i 1 [L0, L1, L2, L3])) := by
 refine bx' (LValid.boo (LValid.sy ?_))
 show LValid P 31 [.c (.ptr 0 (.lit 0) 1 0), .c (.g (.int .i64 (.sym z.val)))] _ _
 generalize z.val = z
 obtain ⟨I, hI⟩ := ref
 refine fn_sim hI (mo hp) (cc hp c31) fun Post hP => ?_
 cbv
 refine .br (fun h => ?_) (fun h => ?_)
 ·have h2 : 0 ≤ z := by simpa [hI, ints, rCmp] using h
  cbv
  exact hP _ _ [0, 1, 2, 3, 4, 5, 6, 7, 8, 9] [] _ _ (by decide) rfl rfl rfl rfl rfl ⟨_, rfl, by
   show I.cmp .lss z 1 = _
   rw [hI]
   show decide (z < 1) = belB z 0 1
   unfold belB
   rw [decide_eq_true h2]
   rfl, rfl⟩
 ·have h2 : ¬ 0 ≤ z := by simpa [hI, ints, rCmp] using h
  cbv
  exact hP _ _ [0, 1, 2, 3, 4, 5, 6, 7, 8, 9] [] _ _ (by decide) rfl rfl rfl rfl rfl ⟨_, rfl, by
   show false = belB z 0 1
   unfold belB
   rw [decide_eq_false h2]
   rfl, rfl⟩
set_option maxHeartbeats 16000000 in
theorem snd1 (z : PZ) (D : List (List G)) (d : List Int) (hD : isL .i64 D d) (hd : D.length * 8 ≤ 140737488355328) (hdy : ∀ y ∈ d, -9223372036854775808 ≤ y ∧ y ≤ 9223372036854775807) (o i : Int) (h0 : 0 ≤ o) (h1 : o ≤ 999999) (g0 : 0 ≤ i) (g1 : i ≤ 999999) (L0 L1 L2 L3 : List (List G)) (ps : List (List PK)) (hF : FIs 1 o i 0 [L0, L1, L2, L3] ps) : LValid P 10 [.c (.ptr 0 (.lit 0) 1 0), z.arg D] (fabM o i 1 [L0, L1, L2, L3])
  (fun v m1 => ∃ ps', (∃ t, v = i64 t ∧ SendR 1 o ps (z.pk d) t ps') ∧ Mv 1 1 o i [L0, L1, L2, L3] ps' m1) := by
 have hF' := hF
 obtain ⟨p0, r, rfl, e0, k0, l0, hF⟩ := hF.cons2 h1 g1
 obtain ⟨p1, r, rfl, e1, k1, l1, hF⟩ := hF.cons2 h1 g1
 obtain ⟨p2, r, rfl, e2, k2, l2, hF⟩ := hF.cons2 h1 g1
 obtain ⟨p3, r, rfl, e3, k3, l3, hF⟩ := hF.cons2 h1 g1
 obtain rfl := hF.nil
 clear hF
 have h1' : o ≤ 1000000 := Int.le_trans h1 (by decide)
 have g1' : i ≤ 1000000 := Int.le_trans g1 (by decide)
 refine LValid.sy ?_
 show LValid P 10 [.c (.ptr 0 (.lit 0) 1 0), .agg [.g (.int .i64 (.sym z.k.val)), .g (.int .i64 (.sym z.f.val)), .g (.int .i64 (.sym z.t.val)), .g (.int .i64 (.sym z.i.val)), .g (.int .i64 (.sym z.l.val)), .g (.int .i64 (.sym z.p.val)), .g (.int .i64 (.sym z.s.val)), .g (.bool (.sym z.b.val)), .bor 1 D]] _ _
 rw [show z.pk d = ⟨z.k.val, z.f.val, z.t.val, z.i.val, z.l.val, z.p.val, z.s.val, z.b.val, d⟩ from rfl]
 generalize z.k.val = k, z.f.val = f, z.t.val = t, z.i.val = i2, z.l.val = l, z.p.val = p, z.s.val = s, z.b.val = b
 refine LValid.syv (R := fun v m1 => ∃ ps', (∃ t' : Z, v = .one (.c (.g (.int .i64 t'))) ∧ SendR 1 o [p0, p1, p2, p3] ⟨k, f, t, i2, l, p, s, b, d⟩ t'.val ps') ∧ Mv 1 1 o i [L0, L1, L2, L3] ps' m1) ?_ (fun v m1 ⟨ps', ⟨t', h1, h2⟩, h3⟩ => ⟨ps', ⟨t'.val, by rw [h1]; rfl, h2⟩, h3⟩)
 obtain ⟨I, hI⟩ := ref
 have hchk := check hp ⟨.sym k, .sym f, .sym t, .sym i2, .sym l, .sym p, .sym s, .sym b⟩ D d hD
 have hreq := request hp (.sym k)
 rw [show PZ.pk ⟨.sym k, .sym f, .sym t, .sym i2, .sym l, .sym p, .sym s, .sym b⟩ d = ⟨k, f, t, i2, l, p, s, b, d⟩ from rfl] at hchk
 rw [show (Z.sym k).val = k from rfl] at hreq
 have hput := fun (L : List (List G)) (h : L.length ≤ 1000000) => p_put hp ⟨.sym k, .sym f, .sym t, .sym i2, .sym l, .sym p, .sym s, .sym b⟩ D d hD hd o L h0 h1' h
 rw [show PZ.pk ⟨.sym k, .sym f, .sym t, .sym i2, .sym l, .sym p, .sym s, .sym b⟩ d = ⟨k, f, t, i2, l, p, s, b, d⟩ from rfl] at hput
 have hno : sendB 1 ⟨k, f, t, i2, l, p, s, b, d⟩ = false → SendR 1 o [p0, p1, p2, p3] ⟨k, f, t, i2, l, p, s, b, d⟩ 1 [p0, p1, p2, p3] := fun h => .inl ⟨rfl, h, rfl⟩
 have hyes := fun hs => send_yes (N := 1) rfl rfl hF' h1 (q := ⟨k, f, t, i2, l, p, s, b, d⟩) hD hdy hs
 have hsb : sendB 1 ⟨k, f, t, i2, l, p, s, b, d⟩ = (checkB ⟨k, f, t, i2, l, p, s, b, d⟩ && belB f 0 1 && belB t 0 1) := rfl
 have hpr : reqB k = true → place ⟨k, f, t, i2, l, p, s, b, d⟩ = 4 * f.toNat + 0 := fun h => by show 4 * f.toNat + (if reqB k then 0 else 2) = _; rw [h]; rfl
 have hpa : reqB k = false → place ⟨k, f, t, i2, l, p, s, b, d⟩ = 4 * f.toNat + 2 := fun h => by show 4 * f.toNat + (if reqB k then 0 else 2) = _; rw [h]; rfl
 have hbl : belB f 0 1 = true → ∃ j : Nat, isN f j ∧ j < 1 ∧ f.toNat = j := fun h => by
  unfold belB at h
  simp only [Bool.and_eq_true, decide_eq_true_eq] at h
  exact ⟨f.toNat, by unfold isN; omega, by omega, rfl⟩
 generalize SendR 1 o [p0, p1, p2, p3] ⟨k, f, t, i2, l, p, s, b, d⟩ = SR at hno hyes ⊢
 generalize sendB 1 ⟨k, f, t, i2, l, p, s, b, d⟩ = sb at hsb hno hyes
 generalize place ⟨k, f, t, i2, l, p, s, b, d⟩ = pl at hpr hpa hyes
 generalize checkB ⟨k, f, t, i2, l, p, s, b, d⟩ = ck at hchk hsb
 generalize hbf : belB f 0 1 = bf at hsb hbl
 generalize hbt : belB t 0 1 = bt at hsb
 refine fn_sim hI (mo hp) (cc hp c10) fun Post hP => ?_
 cbv
 refine .go [] [] [] hchk rfl rfl rfl rfl rfl rfl ?_
 rintro v m1 ⟨e, he, rfl, rfl⟩
 clear hchk
 cases ck with
 | false =>
  have he : e = 1 := he
  subst he
  cbv
  refine br_t (show I.cmp .neq 1 0 = true from by rw [hI]; rfl) ?_
  cbv
  exact hP _ _ [0, 1, 2, 3, 4, 5, 6, 7, 8, 9] [] _ _ (by decide) rfl rfl rfl rfl rfl ⟨_, ⟨.lit 1, rfl, hno (by rw [hsb]; rfl)⟩, .inl ⟨hF', rfl⟩⟩
 | true =>
 have he : e = 0 := he
 subst he
 cbv
 refine br_f (show I.cmp .neq 0 0 = false from by rw [hI]; rfl) ?_
 cbv
 refine .go [0, 1, 2, 3, 4, 5, 6, 7, 8, 9] [] [] (is1 hp (.sym f) o i L0 L1 L2 L3) rfl rfl rfl rfl rfl rfl ?_
 rintro v m1 ⟨t1, ht1, rfl, rfl⟩
 have ht1 : t1 = bf := (show t1 = belB f 0 1 from ht1).trans hbf
 cbv
 refine .br (fun g1 => ?_) (fun g1 => ?_)
 ·have h1 : t1 = false := by simpa [hI, ints] using g1
  cbv
  exact hP _ _ [0, 1, 2, 3, 4, 5, 6, 7, 8, 9] [] _ _ (by decide) rfl rfl rfl rfl rfl ⟨_, ⟨.lit 1, rfl, hno (by rw [hsb, ← ht1, h1]; rfl)⟩, .inl ⟨hF', rfl⟩⟩
 have h2 : t1 = true := by simpa [hI, ints] using g1
 obtain ⟨j, hj, hjn, hjt⟩ := hbl (by rw [← ht1]; exact h2)
 cbv
 refine .go [0, 1, 2, 3, 4, 5, 6, 7, 8, 9] [] [] (is1 hp (.sym t) o i L0 L1 L2 L3) rfl rfl rfl rfl rfl rfl ?_
 rintro v m1 ⟨t2, ht2, rfl, rfl⟩
 have ht2 : t2 = bt := (show t2 = belB t 0 1 from ht2).trans hbt
 rw [← ht1, ← ht2, h2] at hsb
 clear hbl ht1 ht2 h2 g1
 cbv
 refine .br (fun g2 => ?_) (fun g2 => ?_)
 ·have h1 : t2 = false := by simpa [hI, ints] using g2
  cbv
  exact hP _ _ [0, 1, 2, 3, 4, 5, 6, 7, 8, 9] [] _ _ (by decide) rfl rfl rfl rfl rfl ⟨_, ⟨.lit 1, rfl, hno (by rw [hsb, h1]; rfl)⟩, .inl ⟨hF', rfl⟩⟩
 have h2 : t2 = true := by simpa [hI, ints] using g2
 rw [h2] at hsb
 have hsb : sb = true := hsb
 clear h2 g2 hno
 rw [hjt] at hpr hpa
 have h9 := hyes hsb
 obtain ⟨p', Lp, hLp, hll, h5', h0'⟩ := h9
 have hk1 : Kp [2 + 8 * j, 3 + 8 * j, 4 + 8 * j, 5 + 8 * j, 6 + 8 * j, 7 + 8 * j, 8 + 8 * j, 9 + 8 * j] := ⟨⟩
 have hkr : Kp [2 + 8 * j, 3 + 8 * j] := ⟨⟩
 have hka : Kp [6 + 8 * j, 7 + 8 * j] := ⟨⟩
 cbv
 refine .drawn [2, 3, 4, 5, 6, 7, 8, 9] ?_
 cbv
 have hcs : j = 0 := by omega
 clear hjt hjn hyes hsb
 rcases hcs with rfl
 all_goals
  refine .idx _ hj (by decide) ?_
  cbv
  refine .go [] [] [] hreq rfl rfl rfl rfl rfl rfl ?_
  rintro v m1 ⟨rq, hrq, rfl, rfl⟩
  cbv
  refine .go (sOf hk1) [] [] (sort_ hp (.sym rq) o i _ _ _ _) rfl rfl rfl rfl rfl rfl ?_
  rintro v m1 ⟨⟨hs, rfl⟩ | ⟨hs, rfl⟩, rfl⟩
  ·have hs : rq = true := hs
   have hpl2 := hpr (hrq.symm.trans hs)
   subst hpl2
   cases hLp
   cbv
   refine .go (sOf hkr) [] [] (hput _ hll) rfl rfl rfl rfl rfl rfl ?_
   rintro v m1 ⟨t, rfl, ⟨rfl, h6, rfl⟩ | ⟨rfl, h6, L', hL', rfl⟩⟩
   ·have h9 := h5' h6
    cbv
    exact hP _ _ [0, 1, 2, 3, 4, 5, 6, 7, 8, 9] [] _ _ (by decide) rfl rfl rfl rfl rfl ⟨_, ⟨.sym 5, rfl, h9⟩, .inl ⟨hF', rfl⟩⟩
   ·have h9 := h0' L' h6 hL'
    obtain ⟨u1, u2⟩ := h9
    cbv
    exact hP _ _ [0, 1, 2, 3, 4, 5, 6, 7, 8, 9, 11] [] _ _ (by decide) rfl rfl rfl rfl rfl ⟨_, ⟨.sym 0, rfl, u1⟩, .inr (.inl ⟨_, L', by decide, u2, rfl⟩)⟩
  ·have hs : rq = false := hs
   have hpl2 := hpa (hrq.symm.trans hs)
   subst hpl2
   cases hLp
   cbv
   refine .go (sOf hka) [] [] (hput _ hll) rfl rfl rfl rfl rfl rfl ?_
   rintro v m1 ⟨t, rfl, ⟨rfl, h6, rfl⟩ | ⟨rfl, h6, L', hL', rfl⟩⟩
   ·have h9 := h5' h6
    cbv
    exact hP _ _ [0, 1, 2, 3, 4, 5, 6, 7, 8, 9] [] _ _ (by decide) rfl rfl rfl rfl rfl ⟨_, ⟨.sym 5, rfl, h9⟩, .inl ⟨hF', rfl⟩⟩
   ·have h9 := h0' L' h6 hL'
    obtain ⟨u1, u2⟩ := h9
    cbv
    exact hP _ _ [0, 1, 2, 3, 4, 5, 6, 7, 8, 9, 11] [] _ _ (by decide) rfl rfl rfl rfl rfl ⟨_, ⟨.sym 0, rfl, u1⟩, .inr (.inl ⟨_, L', by decide, u2, rfl⟩)⟩
theorem sendU1 (z : PZ) (D : List (List G)) (d : List Int) (hD : isL .i64 D d) (hd : D.length * 8 ≤ 140737488355328) (hdy : ∀ y ∈ d, -9223372036854775808 ≤ y ∧ y ≤ 9223372036854775807) (o i : Int) (h0 : 0 ≤ o) (h1 : o ≤ 999999) (g0 : 0 ≤ i) (g1 : i ≤ 999999) (L0 L1 L2 L3 : List (List G)) (ps : List (List PK)) (hF : FIs 1 o i 0 [L0, L1, L2, L3] ps) : LValid P 10 [.c (.ptr 0 (.lit 0) 1 0), z.arg D] (fabM o i 1 [L0, L1, L2, L3])
  (fun v m1 => ∃ (M0 M1 M2 M3 : List (List G)) (ps' : List (List PK)), (∃ t, v = i64 t ∧ SendR 1 o ps (z.pk d) t ps') ∧ FIs 1 o i 0 [M0, M1, M2, M3] ps' ∧ m1 = fabU o i 1 [M0, M1, M2, M3]) :=
 up1 (fun I v ps ⟨t, h, _⟩ => by subst h; exact ⟨rfl, fun _ _ => rfl⟩) (snd1 hp z D d hD hd hdy o i h0 h1 g0 g1 L0 L1 L2 L3 ps hF)
set_option maxHeartbeats 16000000 in
theorem pools1 (o i : Int) (L0 L1 L2 L3 : List (List G)) : LValid P 35 [.c (.ptr 0 (.lit 0) 1 0)] (fabM o i 1 [L0, L1, L2, L3])
  (fun v m1 => v = .one (.c (.row 10 2 none)) ∧ m1 = (fabM o i 1 [L0, L1, L2, L3]) ++ outB 1) := by
 obtain ⟨I, hI⟩ := ref
 refine fn_sim hI (mo hp) (cc hp c35) fun Post hP => ?_
 cbv
 refine .loop_next (fun n ts m => ∃ (j : Nat) (z : Int), n = 1 - j ∧ isN z j ∧ j ≤ 1 ∧ ts = fr 24 [(0, .one (.c (.ptr 0 (.lit 0) 1 0))), (3, .one (.c (outC 10 j))), (9, .one (.c (.row 1 4 none))), (10, i64 1), (11, i64 z)] ∧ m = (fabM o i 1 [L0, L1, L2, L3]) ++ outB j)
  1 _ _ [0, 1, 2, 3, 4, 5, 6, 7, 8, 9] [] [0, 3, 9, 10, 11] (by decide) rfl rfl rfl ⟨0, 0, rfl, rfl, Nat.zero_le _, rfl, rfl⟩ ?_
 rintro next n hnext ts m ⟨j, z, hnn, hz, hj, rfl, rfl⟩
 have hz1 : isN (I.bin .add .i64 z 1) (j + 1) := by unfold isN at hz ⊢; rw [hI]; simp only [ints, rBin]; rw [wrap_in] <;> omega
 have hcm : (j < 1 → I.cmp .lss z 1 = true) ∧ (j = 1 → I.cmp .lss z 1 = false) := by
  unfold isN at hz
  rw [hI]
  simp only [ints, rCmp, decide_eq_true_eq, decide_eq_false_iff_not]
  omega
 have hcs : j = 0 ∨ j = 1 := by omega
 clear hj
 rcases hcs with rfl | rfl
 ·have hc := hcm.1 (by decide)
  clear hcm
  cbv
  refine br_t hc ?_
  cbv
  refine .idx _ hz (by decide) ?_
  cbv
  refine .most (by decide) (by decide) ?_
  cbv
  exact hnext _ _ 0 [0, 1, 2, 3, 4, 5, 6, 7, 8, 9, 12] [] [0, 3, 9, 10, 11] _ _ (by omega) (by decide) rfl rfl rfl ⟨1, _, rfl, hz1, by decide, rfl, rfl⟩
 ·have hc := hcm.2 rfl
  clear hcm
  cbv
  refine br_f hc ?_
  cbv
  exact hP _ _ [0, 1, 2, 3, 4, 5, 6, 7, 8, 9, 10] [] _ _ (by decide) rfl rfl rfl rfl rfl ⟨rfl, rfl⟩
theorem underU1 (o i : Int) (h0 : 0 ≤ o) (h1 : o ≤ 999999) (g0 : 0 ≤ i) (g1 : i ≤ 999999) (L0 L1 L2 L3 : List (List G)) (ps : List (List PK)) (hF : FIs 1 o i 0 [L0, L1, L2, L3] ps) : LValid P 11 [.c (.ptr 0 (.lit 0) 1 0)] (fabM o i 1 [L0, L1, L2, L3]) (fun v m1 => ∃ t, isN t (under ps).length ∧ v = i64 t ∧ m1 = (fabM o i 1 [L0, L1, L2, L3])) := by
 have hF' := hF
 obtain ⟨p0, r, rfl, e0, k0, l0, hF⟩ := hF.cons2 h1 g1
 obtain ⟨p1, r, rfl, e1, k1, l1, hF⟩ := hF.cons2 h1 g1
 obtain ⟨p2, r, rfl, e2, k2, l2, hF⟩ := hF.cons2 h1 g1
 obtain ⟨p3, r, rfl, e3, k3, l3, hF⟩ := hF.cons2 h1 g1
 obtain rfl := hF.nil
 clear hF
 have h1' : o ≤ 1000000 := Int.le_trans h1 (by decide)
 have g1' : i ≤ 1000000 := Int.le_trans g1 (by decide)
 have hun : sumLen 2 [L0, L2] = (under [p0, p1, p2, p3]).length := (lenTo_is 2 _ _ 0 hF').trans (lenTo_all 2 _ (Nat.le_refl _))
 rw [← hun]
 have hbd : ∀ j, j ≤ 2 → sumLen j [L0, L2] ≤ 100000000 := fun j hj => Nat.le_trans (sumLen_bound [L0, L2] j 1000000 (by simp only [List.forall_mem_cons]; refine ⟨by assumption, by assumption, fun _ h => (by cases h)⟩)) (by omega)
 obtain ⟨I, hI⟩ := ref
 refine fn_sim hI (mo hp) (cc hp c11) fun Post hP => ?_
 cbv
 refine .go [0, 1, 2, 3, 4, 5, 6, 7, 8, 9] [] [] (pools1 hp o i L0 L1 L2 L3) rfl rfl rfl rfl rfl rfl ?_
 rintro v m1 ⟨rfl, rfl⟩
 cbv
 refine .loop_next (fun n ts m => ∃ (j : Nat) (z y : Int), n = 2 - j ∧ isN z j ∧ j ≤ 2 ∧ isN y (sumLen j [L0, L2]) ∧ ts = fr 20 [(0, .one (.c (.ptr 0 (.lit 0) 1 0))), (3, i64 y), (7, .one (.c (.row 10 2 none))), (8, i64 2), (9, i64 z)] ∧ m = (fabM o i 1 [L0, L1, L2, L3]) ++ outB 1)
  2 _ _ [0, 1, 2, 3, 4, 5, 6, 7, 8, 9, 10] [] [0, 3, 7, 8, 9] (by decide) rfl rfl rfl ⟨0, 0, 0, rfl, rfl, Nat.zero_le _, rfl, rfl, rfl⟩ ?_
 rintro next n hnext ts m ⟨j, z, y, hnn, hz, hj, hy, rfl, rfl⟩
 have hz1 : isN (I.bin .add .i64 z 1) (j + 1) := by unfold isN at hz ⊢; rw [hI]; simp only [ints, rBin]; rw [wrap_in] <;> omega
 have hcm : (j < 2 → I.cmp .lss z 2 = true) ∧ (j = 2 → I.cmp .lss z 2 = false) := by
  unfold isN at hz
  rw [hI]
  simp only [ints, rCmp, decide_eq_true_eq, decide_eq_false_iff_not]
  omega
 have hst := fun (L : List (List G)) (x : Int) (hL : [L0, L2][j]? = some L) (hx : x = ((L.length : Nat) : Int)) => sumLen_add hI hy hL hx (hbd (j + 1) (by have := (List.getElem?_eq_some_iff.1 hL).1; simp only [List.length_cons, List.length_nil] at this; omega))
 have hk : Kp [2 + 4 * j, 3 + 4 * j] := ⟨⟩
 have hn1 : j < 2 → 2 - (j + 1) < n := fun h => by omega
 have hcs : j = 0 ∨ j = 1 ∨ j = 2 := by omega
 clear hj hbd hun
 rcases hcs with rfl | rfl | rfl
 rotate_left 2
 ·have hc := hcm.2 rfl
  clear hcm
  cbv
  refine br_f hc ?_
  cbv
  exact hP _ _ [0, 1, 2, 3, 4, 5, 6, 7, 8, 9] [] _ _ (by decide) rfl rfl rfl rfl rfl ⟨_, hy, rfl, rfl⟩
 all_goals
  have hc := hcm.1 (by decide)
  have hn2 := hn1 (by decide)
  clear hcm hn1
  cbv
  refine br_t hc ?_
  cbv
  refine .idx _ hz (by decide) ?_
  cbv
  refine .go (sOf hk) [] [] (p_len hp o _) rfl rfl rfl rfl rfl rfl ?_
  rintro v m1 ⟨x, hx, rfl, rfl⟩
  have hy1 := hst _ x rfl hx
  clear hst hx
  cbv
  exact hnext _ _ _ [0, 1, 2, 3, 4, 5, 6, 7, 8, 9, 10] [] [0, 3, 7, 8, 9] _ _ hn2 (by decide) rfl rfl rfl ⟨_, _, _, rfl, hz1, by decide, hy1, rfl, rfl⟩
set_option maxHeartbeats 16000000 in
theorem find1 (z : Z) (hzr : -9223372036854775808 ≤ z.val ∧ z.val ≤ 9223372036854775807) (o i : Int) (L0 L1 L2 L3 : List (List G)) (l0 : L0.length ≤ 1000000) (l1 : L1.length ≤ 1000000) (l2 : L2.length ≤ 1000000) (l3 : L3.length ≤ 1000000) : LValid P 37 [.c (.ptr 0 (.lit 0) 1 0), .c (.g (.int .i64 z))] (fabM o i 1 [L0, L1, L2, L3])
  (fun v m1 => (∃ (q n : Nat) (x : Int) (L : List (List G)), [L0, L2][q]? = some L ∧ isN x n ∧ z.val = ((sumLen q [L0, L2] + n : Nat) : Int) ∧ n < L.length ∧ v = .tup [.agg [.ptr (2 + 4 * q) (.lit 0) 2 0, .ptr (4 + 4 * q) (.lit 0) 2 0], gi .i64 x, gb true] ∧ m1 = (fabM o i 1 [L0, L1, L2, L3])) ∨ ((z.val < 0 ∨ ((sumLen 2 [L0, L2] : Nat) : Int) ≤ z.val) ∧ v = .tup [.agg [.g .nilp, .g .nilp], gi .i64 0, gb false] ∧ m1 = (fabM o i 1 [L0, L1, L2, L3]))) := by
 refine LValid.sy ?_
 show LValid P 37 [.c (.ptr 0 (.lit 0) 1 0), .c (.g (.int .i64 (.sym z.val)))] _ _
 generalize z.val = z at hzr
 have hbd : ∀ j, j ≤ 2 → sumLen j [L0, L2] ≤ 100000000 := fun j hj => Nat.le_trans (sumLen_bound [L0, L2] j 1000000 (by simp only [List.forall_mem_cons]; refine ⟨by assumption, by assumption, fun _ h => (by cases h)⟩)) (by omega)
 refine LValid.syv (R := fun v m1 => (∃ (q n : Nat) (x : Int) (L : List (List G)), [L0, L2][q]? = some L ∧ isN x n ∧ z = ((sumLen q [L0, L2] + n : Nat) : Int) ∧ n < L.length ∧ v = .tup [.agg [.ptr (2 + 4 * q) (.lit 0) 2 0, .ptr (4 + 4 * q) (.lit 0) 2 0], gi .i64 x, .c (.g (.bool (.lit true)))] ∧ m1 = (fabM o i 1 [L0, L1, L2, L3])) ∨ ((z < 0 ∨ ((sumLen 2 [L0, L2] : Nat) : Int) ≤ z) ∧ v = .tup [.agg [.g .nilp, .g .nilp], .c (.g (.int .i64 (.lit 0))), .c (.g (.bool (.lit false)))] ∧ m1 = (fabM o i 1 [L0, L1, L2, L3]))) ?_
  (fun v m1 h => h.imp (fun ⟨q, n, x, L, h1, h2, h3, h4, h5, h6⟩ => ⟨q, n, x, L, h1, h2, h3, h4, by rw [h5]; rfl, h6⟩) (fun ⟨h1, h2, h3⟩ => ⟨h1, by rw [h2]; rfl, h3⟩))
 obtain ⟨I, hI⟩ := ref
 refine fn_sim hI (mo hp) (cc hp c37) fun Post hP => ?_
 cbv
 refine .go [0, 1, 2, 3, 4, 5, 6, 7, 8, 9] [] [] (pools1 hp o i L0 L1 L2 L3) rfl rfl rfl rfl rfl rfl ?_
 rintro v m1 ⟨rfl, rfl⟩
 cbv
 refine .loop_next (fun n ts m => ∃ (j : Nat) (y a : Int), n = 2 - j ∧ isN y j ∧ j ≤ 2 ∧ isA a z j [L0, L2] ∧ ts = fr 34 [(0, .one (.c (.ptr 0 (.lit 0) 1 0))), (1, i64 a), (4, .one (.c (.ptr 10 (.lit 0) 2 0))), (10, .one (.c (.row 11 2 none))), (11, i64 2), (12, i64 y)] ∧ m = (fabM o i 1 [L0, L1, L2, L3]) ++ [.lit 2 [[.g .nilp, .g .nilp]], .lit 2 (fabR 2 1)])
  2 _ _ [0, 1, 2, 3, 4, 5, 6, 7, 8, 9, 10, 11] [] [0, 1, 4, 10, 11, 12] (by decide) rfl rfl rfl ⟨0, 0, z, rfl, rfl, Nat.zero_le _, isA_nil hzr, rfl, rfl⟩ ?_
 rintro next n hnext ts m ⟨j, y, a, hnn, hy, hj, ha, rfl, rfl⟩
 have hy1 : isN (I.bin .add .i64 y 1) (j + 1) := by unfold isN at hy ⊢; rw [hI]; simp only [ints, rBin]; rw [wrap_in] <;> omega
 have hcm : (j < 2 → I.cmp .lss y 2 = true) ∧ (j = 2 → I.cmp .lss y 2 = false) := by
  unfold isN at hy
  rw [hI]
  simp only [ints, rCmp, decide_eq_true_eq, decide_eq_false_iff_not]
  omega
 have hst := fun (L : List (List G)) (x : Int) (hL : [L0, L2][j]? = some L) (hx : x = ((L.length : Nat) : Int)) => isA_step hzr (L := L) ha hL hx (by rw [← sumLen_step j _ L hL]; exact hbd (j + 1) (by have := (List.getElem?_eq_some_iff.1 hL).1; simp only [List.length_cons, List.length_nil] at this; omega))
 rw [show ints = I from hI.symm] at hst
 have hk : Kp [2 + 4 * j, 3 + 4 * j] := ⟨⟩
 have hn1 : j < 2 → 2 - (j + 1) < n := fun h => by omega
 have hcs : j = 0 ∨ j = 1 ∨ j = 2 := by omega
 clear hj hbd
 rcases hcs with rfl | rfl | rfl
 rotate_left 2
 ·have hc := hcm.2 rfl
  have ha2 := ha.2
  clear hcm ha hst
  cbv
  refine br_f hc ?_
  cbv
  exact hP _ _ [0, 1, 2, 3, 4, 5, 6, 7, 8, 9] [] _ _ (by decide) rfl rfl rfl rfl rfl (.inr ⟨ha2, rfl, rfl⟩)
 all_goals
  have hc := hcm.1 (by decide)
  have hn2 := hn1 (by decide)
  clear hcm ha hn1
  cbv
  refine br_t hc ?_
  cbv
  refine .idx _ hy (by decide) ?_
  cbv
  refine .br (fun g1 => ?_) (fun g1 => ?_)
  ·cbv
   refine .go (sOf hk) [] [] (p_len hp o _) rfl rfl rfl rfl rfl rfl ?_
   rintro v m1 ⟨x, hx, rfl, rfl⟩
   have hst := hst _ x rfl hx
   cbv
   refine .br (fun g2 => ?_) (fun g2 => ?_)
   ·have h9 := hst.1 g1 g2
    obtain ⟨n, q1, q2, q3⟩ := h9
    clear hst hx g1 g2
    cbv
    exact hP _ _ [0, 1, 2, 3, 4, 5, 6, 7, 8, 9] [] _ _ (by decide) rfl rfl rfl rfl rfl (.inl ⟨_, n, _, _, rfl, q1, q2, q3, rfl, rfl⟩)
   ·have q1 := hst.2.1 g1 g2
    clear hst g1 g2
    cbv
    refine .go (sOf hk) [] [] (p_len hp o _) rfl rfl rfl rfl rfl rfl ?_
    rintro v m1 ⟨x', hx', rfl, rfl⟩
    obtain rfl : x' = x := hx'.trans hx.symm
    clear hx hx'
    cbv
    exact hnext _ _ _ [0, 1, 2, 3, 4, 5, 6, 7, 8, 9, 10, 11] [] [0, 1, 4, 10, 11, 12] _ _ hn2 (by decide) rfl rfl rfl ⟨_, _, _, rfl, hy1, by decide, q1, rfl, rfl⟩
  ·cbv
   refine .go (sOf hk) [] [] (p_len hp o _) rfl rfl rfl rfl rfl rfl ?_
   rintro v m1 ⟨x, hx, rfl, rfl⟩
   have q1 := (hst _ x rfl hx).2.2 g1
   clear hst g1 hx
   cbv
   exact hnext _ _ _ [0, 1, 2, 3, 4, 5, 6, 7, 8, 9, 10, 11] [] [0, 1, 4, 10, 11, 12] _ _ hn2 (by decide) rfl rfl rfl ⟨_, _, _, rfl, hy1, by decide, q1, rfl, rfl⟩
set_option maxHeartbeats 16000000 in
theorem packet1 (z : Z) (hzr : -9223372036854775808 ≤ z.val ∧ z.val ≤ 9223372036854775807) (o i : Int) (h0 : 0 ≤ o) (h1 : o ≤ 999999) (g0 : 0 ≤ i) (g1 : i ≤ 999999) (L0 L1 L2 L3 : List (List G)) (ps : List (List PK)) (hF : FIs 1 o i 0 [L0, L1, L2, L3] ps) : LValid P 12 [.c (.ptr 0 (.lit 0) 1 0), .c (.g (.int .i64 z))] (fabM o i 1 [L0, L1, L2, L3])
  (fun v m1 => (∃ (q n : Nat) (p : List PK) (r : PK) (D : List (List G)), (evens ps)[q]? = some p ∧ p[n]? = some r ∧ z.val = ((lenTo q (evens ps) + n : Nat) : Int) ∧ isL .i64 D r.d ∧ v = .tup [r.told (.g (.rows 1 D)), gb true] ∧ m1 = (fabM o i 1 [L0, L1, L2, L3])) ∨ ((z.val < 0 ∨ (((under ps).length : Nat) : Int) ≤ z.val) ∧ v = .tup [PK.nought.told (.g .nil), gb false] ∧ m1 = (fabM o i 1 [L0, L1, L2, L3]))) := by
 have hF' := hF
 obtain ⟨p0, r, rfl, e0, k0, l0, hF⟩ := hF.cons2 h1 g1
 obtain ⟨p1, r, rfl, e1, k1, l1, hF⟩ := hF.cons2 h1 g1
 obtain ⟨p2, r, rfl, e2, k2, l2, hF⟩ := hF.cons2 h1 g1
 obtain ⟨p3, r, rfl, e3, k3, l3, hF⟩ := hF.cons2 h1 g1
 obtain rfl := hF.nil
 clear hF
 have h1' : o ≤ 1000000 := Int.le_trans h1 (by decide)
 have g1' : i ≤ 1000000 := Int.le_trans g1 (by decide)
 refine LValid.sy ?_
 show LValid P 12 [.c (.ptr 0 (.lit 0) 1 0), .c (.g (.int .i64 (.sym z.val)))] _ _
 generalize z.val = z at hzr
 have hun : sumLen 2 [L0, L2] = (under [p0, p1, p2, p3]).length := (lenTo_is 2 _ _ 0 hF').trans (lenTo_all 2 _ (Nat.le_refl _))
 have hto : ∀ q, sumLen q [L0, L2] = lenTo q (evens [p0, p1, p2, p3]) := fun q => lenTo_is q _ _ 0 hF'
 refine LValid.syv (R := fun v m1 => (∃ (q n : Nat) (p : List PK) (r : PK) (D : List (List G)), (evens [p0, p1, p2, p3])[q]? = some p ∧ p[n]? = some r ∧ z = ((lenTo q (evens [p0, p1, p2, p3]) + n : Nat) : Int) ∧ isL .i64 D r.d ∧ v = .tup [r.told (.g (.rows 1 D)), gb true] ∧ m1 = (fabM o i 1 [L0, L1, L2, L3])) ∨ ((z < 0 ∨ (((under [p0, p1, p2, p3]).length : Nat) : Int) ≤ z) ∧ v = .tup [noughtL, .c (.g (.bool (.lit false)))] ∧ m1 = (fabM o i 1 [L0, L1, L2, L3]))) ?_ (fun v m1 h => h.imp (fun h => h.imp fun q h => h.imp fun n h => h.imp fun ps h => h.imp fun r h => h.imp fun D ⟨h1, h2, h3, h4, h5, h6⟩ => ⟨h1, h2, h3, h4, by rw [h5]; rfl, h6⟩) (fun ⟨h1, h2, h3⟩ => ⟨h1, by rw [h2]; rfl, h3⟩))
 obtain ⟨I, hI⟩ := ref
 refine fn_sim hI (mo hp) (cc hp c12) fun Post hP => ?_
 cbv
 refine .go [0, 1, 2, 3, 4, 5, 6, 7, 8, 9] [] [] (find1 hp (.sym z) hzr o i L0 L1 L2 L3 l0 l1 l2 l3) rfl rfl rfl rfl rfl rfl ?_
 rintro v m1 (⟨q, n, x, L, hq, hx, hz, hn, rfl, rfl⟩ | ⟨h, rfl, rfl⟩)
 ·have hz : z = ((sumLen q [L0, L2] + n : Nat) : Int) := hz
  have hz0 : I.cmp .lss z 0 = false := by
   rw [hI, hz]
   simp only [ints, rCmp, decide_eq_false_iff_not]
   omega
  rw [hto] at hz
  have h9 := hF'.at _ _ _ (2 * q) _ (by rw [← evens_get]; exact hq)
  obtain ⟨p, hpq, eP, kP, _⟩ := h9
  rw [← evens_get] at hpq
  have hl : L.length ≤ 1000000 := by
   have hm := List.mem_of_getElem? hq
   simp only [List.mem_cons, List.not_mem_nil, or_false] at hm
   rcases hm with rfl | rfl <;> assumption
  have hcs : q = 0 ∨ q = 1 := by
   have := (List.getElem?_eq_some_iff.1 hq).1
   simp only [List.length_cons, List.length_nil] at this
   omega
  have hk : Kp [2 + 4 * q, 3 + 4 * q] := ⟨⟩
  clear hto hun
  rcases hcs with rfl | rfl
  all_goals
   cases hq
   cbv
   refine br_f (show I.not true = false from by rw [hI]; rfl) ?_
   cbv
   refine br_f hz0 ?_
   cbv
   refine .go (sOf hk) [] [] (p_get hp (.sym x) _ _ p eP (okQ.len kP) hl) rfl rfl rfl rfl rfl rfl ?_
   rintro v m1 (⟨h, _⟩ | ⟨n2, r, D, hn2, hr, hD, rfl, rfl⟩)
   ·exact absurd h (notOut hx (lenIs eP hn))
   ·obtain rfl : n2 = n := isN_eq hn2 hx
    cbv
    exact hP _ _ [0, 1, 2, 3, 4, 5, 6, 7, 8, 9] [12] _ _ (by decide) rfl rfl rfl rfl rfl (.inl ⟨_, n2, p, r, D, hpq, hr, hz, hD, rfl, rfl⟩)
 ·rw [hun] at h
  cbv
  refine br_t (show I.not false = true from by rw [hI]; rfl) ?_
  cbv
  exact hP _ _ [0, 1, 2, 3, 4, 5, 6, 7, 8, 9] [] _ _ (by decide) rfl rfl rfl rfl rfl (.inr ⟨h, rfl, rfl⟩)
set_option maxHeartbeats 16000000 in
theorem takeRequest1 (z : Z) (o i : Int) (h0 : 0 ≤ o) (h1 : o ≤ 999999) (g0 : 0 ≤ i) (g1 : i ≤ 999999) (L0 L1 L2 L3 : List (List G)) (ps : List (List PK)) (hF : FIs 1 o i 0 [L0, L1, L2, L3] ps) : LValid P 42 [.c (.ptr 0 (.lit 0) 1 0), .c (.g (.int .i64 z)), .c (.g (.bool (.lit true)))] (fabM o i 1 [L0, L1, L2, L3])
  (fun v m1 => ∃ (M0 M1 M2 M3 : List (List G)) (ps' : List (List PK)), TakeV 1 ps z.val 1 v ps' ∧ FIs 1 o i 0 [M0, M1, M2, M3] ps' ∧ m1 = fabU o i 1 [M0, M1, M2, M3]) := by
 refine up1 (fun I v ps ⟨r, b, D, h, _⟩ => by subst h; exact ⟨rfl, fun _ _ => rfl⟩) (takeW ?_)
 have hF' := hF
 obtain ⟨p0, r, rfl, e0, k0, l0, hF⟩ := hF.cons2 h1 g1
 obtain ⟨p1, r, rfl, e1, k1, l1, hF⟩ := hF.cons2 h1 g1
 obtain ⟨p2, r, rfl, e2, k2, l2, hF⟩ := hF.cons2 h1 g1
 obtain ⟨p3, r, rfl, e3, k3, l3, hF⟩ := hF.cons2 h1 g1
 obtain rfl := hF.nil
 clear hF
 have h1' : o ≤ 1000000 := Int.le_trans h1 (by decide)
 have g1' : i ≤ 1000000 := Int.le_trans g1 (by decide)
 refine LValid.sy ?_
 show LValid P 42 [.c (.ptr 0 (.lit 0) 1 0), .c (.g (.int .i64 (.sym z.val))), .c (.g (.bool (.sym true)))] _ _
 generalize z.val = z
 obtain ⟨I, hI⟩ := ref
 have hbl : belB z 0 1 = true → ∃ j : Nat, isN z j ∧ j < 1 := fun h => by
  unfold belB at h
  simp only [Bool.and_eq_true, decide_eq_true_eq] at h
  exact ⟨z.toNat, by unfold isN; omega, by omega⟩
 have hno : belB z 0 1 = false → ∀ v, v = .tup [noughtL, .c (.g (.bool (.lit false)))] → TakeW 1 [p0, p1, p2, p3] z 1 v [p0, p1, p2, p3] := fun h v hv => .inl ⟨.inl hv, rfl, .inl h⟩
 refine fn_sim hI (mo hp) (cc hp c42) fun Post hP => ?_
 generalize hbz : belB z 0 1 = bz at hbl hno
 cbv
 refine .go [0, 1, 2, 3, 4, 5, 6, 7, 8, 9] [] [] (is1 hp (.sym z) o i L0 L1 L2 L3) rfl rfl rfl rfl rfl rfl ?_
 rintro v m1 ⟨t1, ht1, rfl, rfl⟩
 have ht1 : t1 = bz := (show t1 = belB z 0 1 from ht1).trans hbz
 cbv
 refine .br (fun g1 => ?_) (fun g1 => ?_)
 ·have h1 : t1 = false := by simpa [hI, ints] using g1
  have h9 := hno (by rw [← ht1, h1])
  cbv
  exact hP _ _ [0, 1, 2, 3, 4, 5, 6, 7, 8, 9] [] _ _ (by decide) rfl rfl rfl rfl rfl ⟨_, h9 _ rfl, .inl ⟨hF', rfl⟩⟩
 have h2 : t1 = true := by simpa [hI, ints] using g1
 obtain ⟨j, hj, hjn⟩ := hbl (by rw [← ht1]; exact h2)
 have htk := fun (p : List PK) (r : PK) (L' : List (List G)) (h1 : [p0, p1, p2, p3][4 * j + 1]? = some p) (h2 : p[0]? = some r) (h3 : isP L' (p.eraseIdx 0)) => take_yes hF' h1 h2 h3
 have hk1 : Kp [2 + 8 * j, 3 + 8 * j, 4 + 8 * j, 5 + 8 * j, 6 + 8 * j, 7 + 8 * j, 8 + 8 * j, 9 + 8 * j] := ⟨⟩
 have hk2 : Kp [4 + 8 * j, 5 + 8 * j] := ⟨⟩
 have hcs : j = 0 := by omega
 clear hjn hbl ht1 g1 hbz hno
 cbv
 rcases hcs with rfl
 all_goals
  refine .idx _ hj (by decide) ?_
  cbv
  refine .go (sOf hk1) [] [] (sort_ hp (.sym true) o i _ _ _ _) rfl rfl rfl rfl rfl rfl ?_
  rintro v m1 ⟨⟨hs, rfl⟩ | ⟨hs, rfl⟩, rfl⟩
  ·have h9 := htk
   cbv
   refine .go (sOf hk2) [] [] (k_take hp _ _ _ (by assumption) (okQ.len (by assumption)) (by assumption)) rfl rfl rfl rfl rfl rfl ?_
   rintro v m1 (⟨h, rfl, rfl⟩ | ⟨r, D, L', hr, hD, hL', rfl, rfl⟩)
   ·subst h
    cbv
    exact hP _ _ [0, 1, 2, 3, 4, 5, 6, 7, 8, 9] [] _ _ (by decide) rfl rfl rfl rfl rfl ⟨_, .inl ⟨.inr rfl, rfl, .inr ⟨_, hj, by decide, rfl⟩⟩, .inl ⟨hF', rfl⟩⟩
   ·have h9 := htk _ _ _ rfl hr hL'
    obtain ⟨p', q1, q2, q3⟩ := h9
    cbv
    exact hP _ _ [0, 1, 2, 3, 4, 5, 6, 7, 8, 9, 11] [12] _ _ (by decide) rfl rfl rfl rfl rfl ⟨_, .inr ⟨r, D, p', _, rfl, hD, hj, by decide, q1, rfl, q3⟩, .inr (.inl ⟨_, L', by decide, q2, rfl⟩)⟩
  ·cases hs
theorem requestU1 (z : Z) (o i : Int) (h0 : 0 ≤ o) (h1 : o ≤ 999999) (g0 : 0 ≤ i) (g1 : i ≤ 999999) (L0 L1 L2 L3 : List (List G)) (ps : List (List PK)) (hF : FIs 1 o i 0 [L0, L1, L2, L3] ps) : LValid P 15 [.c (.ptr 0 (.lit 0) 1 0), .c (.g (.int .i64 z))] (fabM o i 1 [L0, L1, L2, L3])
  (fun v m1 => ∃ (M0 M1 M2 M3 : List (List G)) (ps' : List (List PK)), TakeV 1 ps z.val 1 v ps' ∧ FIs 1 o i 0 [M0, M1, M2, M3] ps' ∧ m1 = fabU o i 1 [M0, M1, M2, M3]) := by
 refine LValid.sy ?_
 show LValid P 15 [.c (.ptr 0 (.lit 0) 1 0), .c (.g (.int .i64 (.sym z.val)))] _ _
 generalize z.val = z
 have htk := takeRequest1 hp (.sym z) o i h0 h1 g0 g1 L0 L1 L2 L3 ps hF
 rw [show (Z.sym z).val = z from rfl] at htk
 have htk := htk.mono (R' := fun v m1 => ∃ (M0 M1 M2 M3 : List (List G)) (ps' : List (List PK)) (r : PK) (b : Bool) (D : List (List G)), v = .tup [r.told (.g (.rows 1 D)), gb b] ∧ (∀ v, v = .tup [r.told (.g (.rows 1 D)), gb b] → TakeV 1 ps z 1 v ps') ∧ FIs 1 o i 0 [M0, M1, M2, M3] ps' ∧ m1 = fabU o i 1 [M0, M1, M2, M3]) (fun v m1 ⟨M0, M1, M2, M3, ps', ⟨r, b, D, h1, h2⟩, h3⟩ => ⟨M0, M1, M2, M3, ps', r, b, D, h1, fun v hv => ⟨r, b, D, hv, h2⟩, h3⟩)
 obtain ⟨I, hI⟩ := ref
 refine fn_sim hI (mo hp) (cc hp c15) fun Post hP => ?_
 generalize TakeV 1 ps z 1 = TV at htk hP
 cbv
 refine .go [0, 1, 2, 3, 4, 5, 6, 7, 8, 9] [] [] htk rfl rfl rfl rfl rfl rfl ?_
 rintro v m1 ⟨M0, M1, M2, M3, ps', r, b, D, rfl, hT, hF1, rfl⟩
 cbv
 exact hP _ _ [0, 1, 2, 3, 4, 5, 6, 7, 8, 9, 11, 12, 13, 14] [] _ _ (by decide) rfl rfl rfl rfl rfl ⟨M0, M1, M2, M3, ps', hT _ rfl, hF1, rfl⟩
set_option maxHeartbeats 16000000 in
theorem takeReply1 (z : Z) (o i : Int) (h0 : 0 ≤ o) (h1 : o ≤ 999999) (g0 : 0 ≤ i) (g1 : i ≤ 999999) (L0 L1 L2 L3 : List (List G)) (ps : List (List PK)) (hF : FIs 1 o i 0 [L0, L1, L2, L3] ps) : LValid P 42 [.c (.ptr 0 (.lit 0) 1 0), .c (.g (.int .i64 z)), .c (.g (.bool (.lit false)))] (fabM o i 1 [L0, L1, L2, L3])
  (fun v m1 => ∃ (M0 M1 M2 M3 : List (List G)) (ps' : List (List PK)), TakeV 1 ps z.val 3 v ps' ∧ FIs 1 o i 0 [M0, M1, M2, M3] ps' ∧ m1 = fabU o i 1 [M0, M1, M2, M3]) := by
 refine up1 (fun I v ps ⟨r, b, D, h, _⟩ => by subst h; exact ⟨rfl, fun _ _ => rfl⟩) (takeW ?_)
 have hF' := hF
 obtain ⟨p0, r, rfl, e0, k0, l0, hF⟩ := hF.cons2 h1 g1
 obtain ⟨p1, r, rfl, e1, k1, l1, hF⟩ := hF.cons2 h1 g1
 obtain ⟨p2, r, rfl, e2, k2, l2, hF⟩ := hF.cons2 h1 g1
 obtain ⟨p3, r, rfl, e3, k3, l3, hF⟩ := hF.cons2 h1 g1
 obtain rfl := hF.nil
 clear hF
 have h1' : o ≤ 1000000 := Int.le_trans h1 (by decide)
 have g1' : i ≤ 1000000 := Int.le_trans g1 (by decide)
 refine LValid.sy ?_
 show LValid P 42 [.c (.ptr 0 (.lit 0) 1 0), .c (.g (.int .i64 (.sym z.val))), .c (.g (.bool (.sym false)))] _ _
 generalize z.val = z
 obtain ⟨I, hI⟩ := ref
 have hbl : belB z 0 1 = true → ∃ j : Nat, isN z j ∧ j < 1 := fun h => by
  unfold belB at h
  simp only [Bool.and_eq_true, decide_eq_true_eq] at h
  exact ⟨z.toNat, by unfold isN; omega, by omega⟩
 have hno : belB z 0 1 = false → ∀ v, v = .tup [noughtL, .c (.g (.bool (.lit false)))] → TakeW 1 [p0, p1, p2, p3] z 3 v [p0, p1, p2, p3] := fun h v hv => .inl ⟨.inl hv, rfl, .inl h⟩
 refine fn_sim hI (mo hp) (cc hp c42) fun Post hP => ?_
 generalize hbz : belB z 0 1 = bz at hbl hno
 cbv
 refine .go [0, 1, 2, 3, 4, 5, 6, 7, 8, 9] [] [] (is1 hp (.sym z) o i L0 L1 L2 L3) rfl rfl rfl rfl rfl rfl ?_
 rintro v m1 ⟨t1, ht1, rfl, rfl⟩
 have ht1 : t1 = bz := (show t1 = belB z 0 1 from ht1).trans hbz
 cbv
 refine .br (fun g1 => ?_) (fun g1 => ?_)
 ·have h1 : t1 = false := by simpa [hI, ints] using g1
  have h9 := hno (by rw [← ht1, h1])
  cbv
  exact hP _ _ [0, 1, 2, 3, 4, 5, 6, 7, 8, 9] [] _ _ (by decide) rfl rfl rfl rfl rfl ⟨_, h9 _ rfl, .inl ⟨hF', rfl⟩⟩
 have h2 : t1 = true := by simpa [hI, ints] using g1
 obtain ⟨j, hj, hjn⟩ := hbl (by rw [← ht1]; exact h2)
 have htk := fun (p : List PK) (r : PK) (L' : List (List G)) (h1 : [p0, p1, p2, p3][4 * j + 3]? = some p) (h2 : p[0]? = some r) (h3 : isP L' (p.eraseIdx 0)) => take_yes hF' h1 h2 h3
 have hk1 : Kp [2 + 8 * j, 3 + 8 * j, 4 + 8 * j, 5 + 8 * j, 6 + 8 * j, 7 + 8 * j, 8 + 8 * j, 9 + 8 * j] := ⟨⟩
 have hk2 : Kp [8 + 8 * j, 9 + 8 * j] := ⟨⟩
 have hcs : j = 0 := by omega
 clear hjn hbl ht1 g1 hbz hno
 cbv
 rcases hcs with rfl
 all_goals
  refine .idx _ hj (by decide) ?_
  cbv
  refine .go (sOf hk1) [] [] (sort_ hp (.sym false) o i _ _ _ _) rfl rfl rfl rfl rfl rfl ?_
  rintro v m1 ⟨⟨hs, rfl⟩ | ⟨hs, rfl⟩, rfl⟩
  ·cases hs
  ·have h9 := htk
   cbv
   refine .go (sOf hk2) [] [] (k_take hp _ _ _ (by assumption) (okQ.len (by assumption)) (by assumption)) rfl rfl rfl rfl rfl rfl ?_
   rintro v m1 (⟨h, rfl, rfl⟩ | ⟨r, D, L', hr, hD, hL', rfl, rfl⟩)
   ·subst h
    cbv
    exact hP _ _ [0, 1, 2, 3, 4, 5, 6, 7, 8, 9] [] _ _ (by decide) rfl rfl rfl rfl rfl ⟨_, .inl ⟨.inr rfl, rfl, .inr ⟨_, hj, by decide, rfl⟩⟩, .inl ⟨hF', rfl⟩⟩
   ·have h9 := htk _ _ _ rfl hr hL'
    obtain ⟨p', q1, q2, q3⟩ := h9
    cbv
    exact hP _ _ [0, 1, 2, 3, 4, 5, 6, 7, 8, 9, 11] [12] _ _ (by decide) rfl rfl rfl rfl rfl ⟨_, .inr ⟨r, D, p', _, rfl, hD, hj, by decide, q1, rfl, q3⟩, .inr (.inl ⟨_, L', by decide, q2, rfl⟩)⟩
theorem replyU1 (z : Z) (o i : Int) (h0 : 0 ≤ o) (h1 : o ≤ 999999) (g0 : 0 ≤ i) (g1 : i ≤ 999999) (L0 L1 L2 L3 : List (List G)) (ps : List (List PK)) (hF : FIs 1 o i 0 [L0, L1, L2, L3] ps) : LValid P 21 [.c (.ptr 0 (.lit 0) 1 0), .c (.g (.int .i64 z))] (fabM o i 1 [L0, L1, L2, L3])
  (fun v m1 => ∃ (M0 M1 M2 M3 : List (List G)) (ps' : List (List PK)), TakeV 1 ps z.val 3 v ps' ∧ FIs 1 o i 0 [M0, M1, M2, M3] ps' ∧ m1 = fabU o i 1 [M0, M1, M2, M3]) := by
 refine LValid.sy ?_
 show LValid P 21 [.c (.ptr 0 (.lit 0) 1 0), .c (.g (.int .i64 (.sym z.val)))] _ _
 generalize z.val = z
 have htk := takeReply1 hp (.sym z) o i h0 h1 g0 g1 L0 L1 L2 L3 ps hF
 rw [show (Z.sym z).val = z from rfl] at htk
 have htk := htk.mono (R' := fun v m1 => ∃ (M0 M1 M2 M3 : List (List G)) (ps' : List (List PK)) (r : PK) (b : Bool) (D : List (List G)), v = .tup [r.told (.g (.rows 1 D)), gb b] ∧ (∀ v, v = .tup [r.told (.g (.rows 1 D)), gb b] → TakeV 1 ps z 3 v ps') ∧ FIs 1 o i 0 [M0, M1, M2, M3] ps' ∧ m1 = fabU o i 1 [M0, M1, M2, M3]) (fun v m1 ⟨M0, M1, M2, M3, ps', ⟨r, b, D, h1, h2⟩, h3⟩ => ⟨M0, M1, M2, M3, ps', r, b, D, h1, fun v hv => ⟨r, b, D, hv, h2⟩, h3⟩)
 obtain ⟨I, hI⟩ := ref
 refine fn_sim hI (mo hp) (cc hp c21) fun Post hP => ?_
 generalize TakeV 1 ps z 3 = TV at htk hP
 cbv
 refine .go [0, 1, 2, 3, 4, 5, 6, 7, 8, 9] [] [] htk rfl rfl rfl rfl rfl rfl ?_
 rintro v m1 ⟨M0, M1, M2, M3, ps', r, b, D, rfl, hT, hF1, rfl⟩
 cbv
 exact hP _ _ [0, 1, 2, 3, 4, 5, 6, 7, 8, 9, 11, 12, 13, 14] [] _ _ (by decide) rfl rfl rfl rfl rfl ⟨M0, M1, M2, M3, ps', hT _ rfl, hF1, rfl⟩
theorem waitingU1 (z : Z) (o i : Int) (h0 : 0 ≤ o) (h1 : o ≤ 999999) (g0 : 0 ≤ i) (g1 : i ≤ 999999) (L0 L1 L2 L3 : List (List G)) (ps : List (List PK)) (hF : FIs 1 o i 0 [L0, L1, L2, L3] ps) : LValid P 20 [.c (.ptr 0 (.lit 0) 1 0), .c (.g (.int .i64 z))] (fabM o i 1 [L0, L1, L2, L3])
  (fun v m1 => ∃ t1 t2 : Int, v = .tup [gi .i64 t1, gi .i64 t2] ∧ m1 = (fabM o i 1 [L0, L1, L2, L3]) ∧ NumR 1 ps z.val 1 t1 ∧ NumR 1 ps z.val 3 t2) := by
 refine LValid.sy ?_
 show LValid P 20 [.c (.ptr 0 (.lit 0) 1 0), .c (.g (.int .i64 (.sym z.val)))] _ _
 generalize z.val = z
 refine LValid.syv (R := fun v m1 => ∃ t1 t2 : Z, v = .tup [.c (.g (.int .i64 t1)), .c (.g (.int .i64 t2))] ∧ m1 = (fabM o i 1 [L0, L1, L2, L3]) ∧ NumR 1 ps z 1 t1.val ∧ NumR 1 ps z 3 t2.val) ?_ (fun v m1 ⟨t1, t2, h1, h2⟩ => ⟨t1.val, t2.val, by rw [h1]; rfl, h2⟩)
 obtain ⟨I, hI⟩ := ref
 have hbl : belB z 0 1 = true → ∃ j : Nat, isN z j ∧ j < 1 := fun h => by
  unfold belB at h
  simp only [Bool.and_eq_true, decide_eq_true_eq] at h
  exact ⟨z.toNat, by unfold isN; omega, by omega⟩
 have hno : belB z 0 1 = false → ∀ k, NumR 1 ps z k 0 := fun h k => .inl ⟨h, rfl⟩
 have hyes := fun (j k : Nat) (hj : isN z j) (hjn : j < 1) (L : List (List G)) (hL : [L0, L1, L2, L3][4 * j + k]? = some L) (x : Int) (hx : isN x L.length) => show NumR 1 ps z k x from by
  obtain ⟨p, q1, q2, _⟩ := hF.at _ _ _ _ _ hL
  exact .inr ⟨j, p, hj, by omega, q1, by rw [← q2.len]; exact hx⟩
 refine fn_sim hI (mo hp) (cc hp c20) fun Post hP => ?_
 generalize NumR 1 ps z = NR at hno hyes hP
 generalize hbz : belB z 0 1 = bz at hbl hno
 cbv
 refine .go [0, 1, 2, 3, 4, 5, 6, 7, 8, 9] [] [] (is1 hp (.sym z) o i L0 L1 L2 L3) rfl rfl rfl rfl rfl rfl ?_
 rintro v m1 ⟨t1, ht1, rfl, rfl⟩
 have ht1 : t1 = bz := (show t1 = belB z 0 1 from ht1).trans hbz
 cbv
 refine .br (fun g1 => ?_) (fun g1 => ?_)
 ·have h1 : t1 = false := by simpa [hI, ints] using g1
  have h9 := hno (by rw [← ht1, h1])
  cbv
  exact hP _ _ [0, 1, 2, 3, 4, 5, 6, 7, 8, 9] [] _ _ (by decide) rfl rfl rfl rfl rfl ⟨.lit 0, .lit 0, rfl, rfl, h9 1, h9 3⟩
 have h2 : t1 = true := by simpa [hI, ints] using g1
 obtain ⟨j, hj, hjn⟩ := hbl (by rw [← ht1]; exact h2)
 have hcs : j = 0 := by omega
 have hy1 := hyes j 1 hj hjn
 have hy3 := hyes j 3 hj hjn
 have hk1 : Kp [4 + 8 * j, 5 + 8 * j] := ⟨⟩
 have hk2 : Kp [8 + 8 * j, 9 + 8 * j] := ⟨⟩
 clear hjn hbl ht1 g1 hbz hno hyes hF
 cbv
 refine .drawn [2, 3, 4, 5, 6, 7, 8, 9] ?_
 cbv
 rcases hcs with rfl
 all_goals
  refine .idx _ hj (by decide) ?_
  cbv
  refine .idx _ hj (by decide) ?_
  cbv
  refine .go (sOf hk1) [] [] (k_len hp _ _) rfl rfl rfl rfl rfl rfl ?_
  rintro v m1 ⟨x1, hx1, rfl, rfl⟩
  cbv
  refine .go (sOf hk2) [] [] (k_len hp _ _) rfl rfl rfl rfl rfl rfl ?_
  rintro v m1 ⟨x2, hx2, rfl, rfl⟩
  cbv
  exact hP _ _ [0, 1, 2, 3, 4, 5, 6, 7, 8, 9] [] _ _ (by decide) rfl rfl rfl rfl rfl ⟨.sym x1, .sym x2, rfl, rfl, hy1 _ rfl x1 hx1, hy3 _ rfl x2 hx2⟩
theorem roomRU1 (tb : BB) (htb : tb.val = true) (z : Z) (o i : Int) (h0 : 0 ≤ o) (h1 : o ≤ 999999) (g0 : 0 ≤ i) (g1 : i ≤ 999999) (L0 L1 L2 L3 : List (List G)) (ps : List (List PK)) (hF : FIs 1 o i 0 [L0, L1, L2, L3] ps) : LValid P 17 [.c (.ptr 0 (.lit 0) 1 0), .c (.g (.int .i64 z)), .c (.g (.bool tb))] (fabM o i 1 [L0, L1, L2, L3])
  (fun v m1 => ∃ t : Int, v = i64 t ∧ m1 = (fabM o i 1 [L0, L1, L2, L3]) ∧ ((belB z.val 0 1 = false ∧ t = 0) ∨ ∃ (j : Nat) (p : List PK), isN z.val j ∧ (j : Int) < 1 ∧ ps[4 * j + 0]? = some p ∧ t = o - (p.length : Int))) := by
 have hF' := hF
 obtain ⟨p0, r, rfl, e0, k0, l0, hF⟩ := hF.cons2 h1 g1
 obtain ⟨p1, r, rfl, e1, k1, l1, hF⟩ := hF.cons2 h1 g1
 obtain ⟨p2, r, rfl, e2, k2, l2, hF⟩ := hF.cons2 h1 g1
 obtain ⟨p3, r, rfl, e3, k3, l3, hF⟩ := hF.cons2 h1 g1
 obtain rfl := hF.nil
 clear hF
 have h1' : o ≤ 1000000 := Int.le_trans h1 (by decide)
 have g1' : i ≤ 1000000 := Int.le_trans g1 (by decide)
 refine LValid.sy ?_
 show LValid P 17 [.c (.ptr 0 (.lit 0) 1 0), .c (.g (.int .i64 (.sym z.val))), .c (.g (.bool (.sym tb.val)))] _ _
 rw [htb]
 generalize z.val = z
 refine LValid.syv (R := fun v m1 => ∃ t : Z, v = .one (.c (.g (.int .i64 t))) ∧ m1 = (fabM o i 1 [L0, L1, L2, L3]) ∧ ((belB z 0 1 = false ∧ t.val = 0) ∨ ∃ (j : Nat) (p : List PK), isN z j ∧ (j : Int) < 1 ∧ [p0, p1, p2, p3][4 * j + 0]? = some p ∧ t.val = o - (p.length : Int))) ?_ (fun v m1 ⟨t, h1, h2⟩ => ⟨t.val, by rw [h1]; rfl, h2⟩)
 obtain ⟨I, hI⟩ := ref
 have hbl : belB z 0 1 = true → ∃ j : Nat, isN z j ∧ j < 1 := fun h => by
  unfold belB at h
  simp only [Bool.and_eq_true, decide_eq_true_eq] at h
  exact ⟨z.toNat, by unfold isN; omega, by omega⟩
 have hyes := fun (j : Nat) (hj : isN z j) (hjn : j < 1) (L : List (List G)) (hL : [L0, L1, L2, L3][4 * j + 0]? = some L) (x : Int) (hx : x = o - (L.length : Int)) => show ((belB z 0 1 = false ∧ x = 0) ∨ ∃ (j : Nat) (p : List PK), isN z j ∧ (j : Int) < 1 ∧ [p0, p1, p2, p3][4 * j + 0]? = some p ∧ x = o - (p.length : Int)) from by
  obtain ⟨p, q1, q2, _⟩ := hF'.at _ _ _ _ _ hL
  exact .inr ⟨j, p, hj, by omega, q1, by rw [← q2.len]; exact hx⟩
 refine fn_sim hI (mo hp) (cc hp c17) fun Post hP => ?_
 generalize hbz : belB z 0 1 = bz at hbl hP hyes
 cbv
 refine .go [0, 1, 2, 3, 4, 5, 6, 7, 8, 9] [] [] (is1 hp (.sym z) o i L0 L1 L2 L3) rfl rfl rfl rfl rfl rfl ?_
 rintro v m1 ⟨t1, ht1, rfl, rfl⟩
 have ht1 : t1 = bz := (show t1 = belB z 0 1 from ht1).trans hbz
 cbv
 refine .br (fun g1 => ?_) (fun g1 => ?_)
 ·have h1 : t1 = false := by simpa [hI, ints] using g1
  cbv
  exact hP _ _ [0, 1, 2, 3, 4, 5, 6, 7, 8, 9] [] _ _ (by decide) rfl rfl rfl rfl rfl ⟨.lit 0, rfl, rfl, .inl ⟨by rw [← ht1, h1], rfl⟩⟩
 have h2 : t1 = true := by simpa [hI, ints] using g1
 obtain ⟨j, hj, hjn⟩ := hbl (by rw [← ht1]; exact h2)
 have hcs : j = 0 := by omega
 have hyes := hyes j hj hjn
 have hk1 : Kp [2 + 8 * j, 3 + 8 * j, 4 + 8 * j, 5 + 8 * j, 6 + 8 * j, 7 + 8 * j, 8 + 8 * j, 9 + 8 * j] := ⟨⟩
 have hk2 : Kp [2 + 8 * j, 3 + 8 * j] := ⟨⟩
 clear hjn hbl ht1 g1 hbz
 cbv
 rcases hcs with rfl
 all_goals
  refine .idx _ hj (by decide) ?_
  cbv
  refine .go (sOf hk1) [] [] (sort_ hp (.sym true) o i _ _ _ _) rfl rfl rfl rfl rfl rfl ?_
  rintro v m1 ⟨⟨hs, rfl⟩ | ⟨hs, rfl⟩, rfl⟩
  ·cbv
   refine .go (sOf hk2) [] [] (p_room hp o _ h0 h1' (by assumption)) rfl rfl rfl rfl rfl rfl ?_
   rintro v m1 ⟨x1, hx1, rfl, rfl⟩
   cbv
   exact hP _ _ [0, 1, 2, 3, 4, 5, 6, 7, 8, 9] [] _ _ (by decide) rfl rfl rfl rfl rfl ⟨.sym x1, rfl, rfl, hyes _ rfl x1 hx1⟩
  ·cases hs
theorem roomAU1 (tb : BB) (htb : tb.val = false) (z : Z) (o i : Int) (h0 : 0 ≤ o) (h1 : o ≤ 999999) (g0 : 0 ≤ i) (g1 : i ≤ 999999) (L0 L1 L2 L3 : List (List G)) (ps : List (List PK)) (hF : FIs 1 o i 0 [L0, L1, L2, L3] ps) : LValid P 17 [.c (.ptr 0 (.lit 0) 1 0), .c (.g (.int .i64 z)), .c (.g (.bool tb))] (fabM o i 1 [L0, L1, L2, L3])
  (fun v m1 => ∃ t : Int, v = i64 t ∧ m1 = (fabM o i 1 [L0, L1, L2, L3]) ∧ ((belB z.val 0 1 = false ∧ t = 0) ∨ ∃ (j : Nat) (p : List PK), isN z.val j ∧ (j : Int) < 1 ∧ ps[4 * j + 2]? = some p ∧ t = o - (p.length : Int))) := by
 have hF' := hF
 obtain ⟨p0, r, rfl, e0, k0, l0, hF⟩ := hF.cons2 h1 g1
 obtain ⟨p1, r, rfl, e1, k1, l1, hF⟩ := hF.cons2 h1 g1
 obtain ⟨p2, r, rfl, e2, k2, l2, hF⟩ := hF.cons2 h1 g1
 obtain ⟨p3, r, rfl, e3, k3, l3, hF⟩ := hF.cons2 h1 g1
 obtain rfl := hF.nil
 clear hF
 have h1' : o ≤ 1000000 := Int.le_trans h1 (by decide)
 have g1' : i ≤ 1000000 := Int.le_trans g1 (by decide)
 refine LValid.sy ?_
 show LValid P 17 [.c (.ptr 0 (.lit 0) 1 0), .c (.g (.int .i64 (.sym z.val))), .c (.g (.bool (.sym tb.val)))] _ _
 rw [htb]
 generalize z.val = z
 refine LValid.syv (R := fun v m1 => ∃ t : Z, v = .one (.c (.g (.int .i64 t))) ∧ m1 = (fabM o i 1 [L0, L1, L2, L3]) ∧ ((belB z 0 1 = false ∧ t.val = 0) ∨ ∃ (j : Nat) (p : List PK), isN z j ∧ (j : Int) < 1 ∧ [p0, p1, p2, p3][4 * j + 2]? = some p ∧ t.val = o - (p.length : Int))) ?_ (fun v m1 ⟨t, h1, h2⟩ => ⟨t.val, by rw [h1]; rfl, h2⟩)
 obtain ⟨I, hI⟩ := ref
 have hbl : belB z 0 1 = true → ∃ j : Nat, isN z j ∧ j < 1 := fun h => by
  unfold belB at h
  simp only [Bool.and_eq_true, decide_eq_true_eq] at h
  exact ⟨z.toNat, by unfold isN; omega, by omega⟩
 have hyes := fun (j : Nat) (hj : isN z j) (hjn : j < 1) (L : List (List G)) (hL : [L0, L1, L2, L3][4 * j + 2]? = some L) (x : Int) (hx : x = o - (L.length : Int)) => show ((belB z 0 1 = false ∧ x = 0) ∨ ∃ (j : Nat) (p : List PK), isN z j ∧ (j : Int) < 1 ∧ [p0, p1, p2, p3][4 * j + 2]? = some p ∧ x = o - (p.length : Int)) from by
  obtain ⟨p, q1, q2, _⟩ := hF'.at _ _ _ _ _ hL
  exact .inr ⟨j, p, hj, by omega, q1, by rw [← q2.len]; exact hx⟩
 refine fn_sim hI (mo hp) (cc hp c17) fun Post hP => ?_
 generalize hbz : belB z 0 1 = bz at hbl hP hyes
 cbv
 refine .go [0, 1, 2, 3, 4, 5, 6, 7, 8, 9] [] [] (is1 hp (.sym z) o i L0 L1 L2 L3) rfl rfl rfl rfl rfl rfl ?_
 rintro v m1 ⟨t1, ht1, rfl, rfl⟩
 have ht1 : t1 = bz := (show t1 = belB z 0 1 from ht1).trans hbz
 cbv
 refine .br (fun g1 => ?_) (fun g1 => ?_)
 ·have h1 : t1 = false := by simpa [hI, ints] using g1
  cbv
  exact hP _ _ [0, 1, 2, 3, 4, 5, 6, 7, 8, 9] [] _ _ (by decide) rfl rfl rfl rfl rfl ⟨.lit 0, rfl, rfl, .inl ⟨by rw [← ht1, h1], rfl⟩⟩
 have h2 : t1 = true := by simpa [hI, ints] using g1
 obtain ⟨j, hj, hjn⟩ := hbl (by rw [← ht1]; exact h2)
 have hcs : j = 0 := by omega
 have hyes := hyes j hj hjn
 have hk1 : Kp [2 + 8 * j, 3 + 8 * j, 4 + 8 * j, 5 + 8 * j, 6 + 8 * j, 7 + 8 * j, 8 + 8 * j, 9 + 8 * j] := ⟨⟩
 have hk2 : Kp [6 + 8 * j, 7 + 8 * j] := ⟨⟩
 clear hjn hbl ht1 g1 hbz
 cbv
 rcases hcs with rfl
 all_goals
  refine .idx _ hj (by decide) ?_
  cbv
  refine .go (sOf hk1) [] [] (sort_ hp (.sym false) o i _ _ _ _) rfl rfl rfl rfl rfl rfl ?_
  rintro v m1 ⟨⟨hs, rfl⟩ | ⟨hs, rfl⟩, rfl⟩
  ·cases hs
  ·cbv
   refine .go (sOf hk2) [] [] (p_room hp o _ h0 h1' (by assumption)) rfl rfl rfl rfl rfl rfl ?_
   rintro v m1 ⟨x1, hx1, rfl, rfl⟩
   cbv
   exact hP _ _ [0, 1, 2, 3, 4, 5, 6, 7, 8, 9] [] _ _ (by decide) rfl rfl rfl rfl rfl ⟨.sym x1, rfl, rfl, hyes _ rfl x1 hx1⟩
set_option maxHeartbeats 64000000 in
theorem del1 (z : Z) (hzr : -9223372036854775808 ≤ z.val ∧ z.val ≤ 9223372036854775807) (bz : Z) (hb : -9223372036854775808 ≤ bz.val ∧ bz.val ≤ 9223372036854775807) (mz : Z) (mask : BitVec 16) (hm : mz.val = w16 mask) (o i : Int) (h0 : 0 ≤ o) (h1 : o ≤ 999999) (g0 : 0 ≤ i) (g1 : i ≤ 999999) (L0 L1 L2 L3 : List (List G)) (ps : List (List PK)) (hF : FIs 1 o i 0 [L0, L1, L2, L3] ps) : LValid P 14 [.c (.ptr 0 (.lit 0) 1 0), .c (.g (.int .i64 z)), .c (.g (.int .i64 bz)), .c (.g (.int .u16 mz))] (fabM o i 1 [L0, L1, L2, L3])
  (fun v m1 => ∃ ps', (∃ t, v = i64 t ∧ DelR i ps z.val bz.val mask t ps') ∧ Mv 1 1 o i [L0, L1, L2, L3] ps' m1) := by
 have hpk := fun (z : Int) (hzr : -9223372036854775808 ≤ z ∧ z ≤ 9223372036854775807) => packet1 hp (.sym z) hzr o i h0 h1 g0 g1 L0 L1 L2 L3 ps hF
 have hF' := hF
 obtain ⟨p0, r, rfl, e0, k0, l0, hF⟩ := hF.cons2 h1 g1
 obtain ⟨p1, r, rfl, e1, k1, l1, hF⟩ := hF.cons2 h1 g1
 obtain ⟨p2, r, rfl, e2, k2, l2, hF⟩ := hF.cons2 h1 g1
 obtain ⟨p3, r, rfl, e3, k3, l3, hF⟩ := hF.cons2 h1 g1
 obtain rfl := hF.nil
 clear hF
 have h1' : o ≤ 1000000 := Int.le_trans h1 (by decide)
 have g1' : i ≤ 1000000 := Int.le_trans g1 (by decide)
 refine LValid.sy ?_
 show LValid P 14 [.c (.ptr 0 (.lit 0) 1 0), .c (.g (.int .i64 (.sym z.val))), gi .i64 bz.val, gi .u16 mz.val] _ _
 generalize z.val = z at hzr
 generalize bz.val = bit at hb
 generalize mz.val = qm at hm
 refine LValid.syv (R := fun v m1 => ∃ ps', (∃ t : Z, v = .one (.c (.g (.int .i64 t))) ∧ DelR i [p0, p1, p2, p3] z bit mask t.val ps') ∧ Mv 1 1 o i [L0, L1, L2, L3] ps' m1) ?_ (fun v m1 ⟨ps', ⟨t, h1, h2⟩, h3⟩ => ⟨ps', ⟨t.val, by rw [h1]; rfl, h2⟩, h3⟩)
 obtain ⟨I, hI⟩ := ref
 have hun : sumLen 2 [L0, L2] = (under [p0, p1, p2, p3]).length := (lenTo_is 2 _ _ 0 hF').trans (lenTo_all 2 _ (Nat.le_refl _))
 have hto : ∀ q, sumLen q [L0, L2] = lenTo q (evens [p0, p1, p2, p3]) := fun q => lenTo_is q _ _ 0 hF'
 have hpk := hpk z hzr
 refine fn_sim hI (mo hp) (cc hp c14) fun Post hP => ?_
 have hno : (z < 0 ∨ (((under [p0, p1, p2, p3]).length : Nat) : Int) ≤ z) → DelR i [p0, p1, p2, p3] z bit mask 3 [p0, p1, p2, p3] := fun h => .inl ⟨rfl, h, rfl⟩
 cbv
 refine .go [0, 1, 2, 3, 4, 5, 6, 7, 8, 9] [] [] hpk rfl rfl rfl rfl rfl rfl ?_
 rintro v m1 (⟨q, n, ps', r, D, hq, hr, hz, hD, rfl, rfl⟩ | ⟨h, rfl, rfl⟩)
 rotate_left
 ·have h9 := hno h
  cbv
  refine br_t (show I.not false = true from by rw [hI]; rfl) ?_
  cbv
  exact hP _ _ [0, 1, 2, 3, 4, 5, 6, 7, 8, 9] [] _ _ (by decide) rfl rfl rfl rfl rfl ⟨_, ⟨.lit 3, rfl, h9⟩, .inl ⟨hF', rfl⟩⟩
 have h9 := hF'.get _ _ _ (2 * q) _ (by rw [← evens_get]; exact hq)
 obtain ⟨La, hLa, hPa, hok, _⟩ := h9
 have hLa : [L0, L2][q]? = some La := (evens_get [L0, L1, L2, L3] q).trans hLa
 have hla : La.length ≤ 1000000 := by
  have hm := List.mem_of_getElem? hLa
  simp only [List.mem_cons, List.not_mem_nil, or_false] at hm
  rcases hm with rfl | rfl <;> assumption
 have hcs : q = 0 ∨ q = 1 := by
  have := (List.getElem?_eq_some_iff.1 hLa).1
  simp only [List.length_cons, List.length_nil] at this
  omega
 have hz : z = ((lenTo q (evens [p0, p1, p2, p3]) + n : Nat) : Int) := hz
 have hzs : z = ((sumLen q [L0, L2] + n : Nat) : Int) := by rw [hto]; exact hz
 have hna : n < La.length := by rw [hPa.len]; exact (List.getElem?_eq_some_iff.1 hr).1
 have huni : ∀ (q2 n2 : Nat) (L : List (List G)), [L0, L2][q2]? = some L → z = ((sumLen q2 [L0, L2] + n2 : Nat) : Int) → n2 < L.length → q = q2 ∧ n = n2 := fun q2 n2 L u1 u2 u3 => sumLen_uniq _ _ _ _ _ _ _ hLa u1 hna u3 (by rw [hzs] at u2; exact Int.ofNat.inj u2)
 have hbig : ¬ (z < 0 ∨ ((sumLen 2 [L0, L2] : Nat) : Int) ≤ z) := sumLen_big hzs hLa hna (show [L0, L2].length = 2 from rfl)
 have h9 := hok r (List.mem_of_getElem? hr)
 obtain ⟨hsd, hdy⟩ := h9
 have hd1 := okQ.len hok _ (List.mem_of_getElem? hr)
 have hspoil : wireB r bit mask = false → DelR i [p0, p1, p2, p3] z bit mask 2 [p0, p1, p2, p3] := fun hw => .inr ⟨q, n, ps', r, hq, hr, hz, .inl ⟨rfl, hw, rfl⟩⟩
 have hdl := (place_lt (n := 1) (N := 1) rfl hsd).2
 have hfull : wireB r bit mask = true → ∀ (c : Nat) (L : List (List G)), c = dest r → [L0, L1, L2, L3][c]? = some L → (L.length : Int) = roomQ i r → DelR i [p0, p1, p2, p3] z bit mask 5 [p0, p1, p2, p3] := fun hw c L hc hL h6 => by
  obtain ⟨pq, q1, q2, _⟩ := hF'.at _ _ _ _ _ hL
  exact .inr ⟨q, n, ps', r, hq, hr, hz, .inr ⟨hw, pq, hc ▸ q1, .inl ⟨rfl, by rw [← q2.len]; exact h6, rfl⟩⟩⟩
 have hput2 : wireB r bit mask = true → ∀ (c : Nat) (L X1 : List (List G)), c = dest r → [L0, L1, L2, L3][c]? = some L → (L.length : Int) ≠ roomQ i r → X1 = L ++ [r.row (nrow .i64 r.d)] → ∃ pq, isP X1 (pq ++ [r]) ∧ X1.length ≤ 1000000 ∧
   ∀ X2, isP X2 (ps'.eraseIdx n) → DelR i [p0, p1, p2, p3] z bit mask 0 (([p0, p1, p2, p3].set c (pq ++ [r])).set (2 * q) (ps'.eraseIdx n)) ∧ FIs 1 o i 0 ((List.set [L0, L1, L2, L3] c X1).set (2 * q) X2) (([p0, p1, p2, p3].set c (pq ++ [r])).set (2 * q) (ps'.eraseIdx n)) := fun hw c L X1 hc hL h6 hX => by
  obtain ⟨pq, q1, q2, _, q4⟩ := hF'.at _ _ _ _ _ hL
  have hX1 : isP X1 (pq ++ [r]) := by rw [hX]; exact q2.add (q := r) (show isL .i64 (nrow .i64 r.d) r.d from rfl)
  rw [hc, room_dest] at q4
  refine ⟨pq, hX1, ?_, fun X2 hX2 => ?_⟩
  ·rw [hX1.len, List.length_append]
   have : roomQ i r ≤ 999999 := by unfold roomQ; split <;> omega
   show pq.length + 1 ≤ _
   omega
  ·subst hc
   exact del_yes hF' hq hr hz hw q1 hL h6 hX1 hX2
 clear hno hzs hto hun hpk
 obtain ⟨k, f, t, i2, l, p, s, b, d⟩ := r
 have hD : isL .i64 D d := hD
 have hd1 : d.length * 8 ≤ 140737488355328 := hd1
 have htj : ∃ j : Nat, isN t j ∧ j < 1 ∧ t.toNat = j := by
  unfold sendB at hsd
  simp only [Bool.and_eq_true] at hsd
  have h := hsd.2
  unfold belB at h
  simp only [Bool.and_eq_true, decide_eq_true_eq] at h
  exact ⟨t.toNat, by unfold isN; omega, by omega, rfl⟩
 have hwi := wire_ hp ⟨k, f, t, i2, l, p, s, b, d⟩ D hD hdy bit hb qm mask hm
 have hreq := request hp (.sym k)
 rw [show (Z.sym k).val = k from rfl] at hreq
 have hdr : reqB k = true → 4 * t.toNat + 1 = dest ⟨k, f, t, i2, l, p, s, b, d⟩ ∧ roomQ i ⟨k, f, t, i2, l, p, s, b, d⟩ = i := fun h => by
  constructor
  ·show _ = 4 * t.toNat + (if reqB k then 1 else 3)
   rw [h]
   rfl
  ·show (if reqB k then i else 1) = i
   rw [h]
   rfl
 have hda : reqB k = false → 4 * t.toNat + 3 = dest ⟨k, f, t, i2, l, p, s, b, d⟩ ∧ roomQ i ⟨k, f, t, i2, l, p, s, b, d⟩ = 1 := fun h => by
  constructor
  ·show _ = 4 * t.toNat + (if reqB k then 1 else 3)
   rw [h]
   rfl
  ·show (if reqB k then i else 1) = 1
   rw [h]
   rfl
 have hrow : ∀ (D2 : List (List G)), isL .i64 D2 d → PK.row ⟨k, f, t, i2, l, p, s, b, d⟩ D2 = PK.row ⟨k, f, t, i2, l, p, s, b, d⟩ (nrow .i64 d) := fun D2 h => by rw [show D2 = nrow .i64 d from h]
 have hput2 := fun hw (D2 : List (List G)) (hD2 : isL .i64 D2 d) c L X1 h1 h2 h3 (h4 : X1 = L ++ [PK.row ⟨k, f, t, i2, l, p, s, b, d⟩ D2]) => hput2 hw c L X1 h1 h2 h3 (by rw [h4, hrow D2 hD2])
 clear hsd hdy hdl hrow hna
 generalize wireB ⟨k, f, t, i2, l, p, s, b, d⟩ bit mask = wb at hwi hspoil hfull hput2
 generalize roomQ i ⟨k, f, t, i2, l, p, s, b, d⟩ = rq0 at hdr hda hfull hput2
 generalize dest ⟨k, f, t, i2, l, p, s, b, d⟩ = de at hdr hda hfull hput2
 cbv
 refine br_f (show I.not true = false from by rw [hI]; rfl) ?_
 cbv
 refine .go [] [] [.bor 1] hwi rfl rfl rfl rfl rfl rfl ?_
 rintro v m1 (⟨hw, D2, hD2, rfl, rfl⟩ | ⟨hw, rfl, rfl⟩)
 rotate_left
 ·have h9 := hspoil hw
  cbv
  refine br_t (show I.cmp .neq 2 0 = true from by rw [hI]; rfl) ?_
  cbv
  exact hP _ _ [0, 1, 2, 3, 4, 5, 6, 7, 8, 9] [] _ _ (by decide) rfl rfl rfl rfl rfl ⟨_, ⟨.sym 2, rfl, h9⟩, .inl ⟨hF', rfl⟩⟩
 have hfull := hfull hw
 have hput2 := hput2 hw D2 hD2
 have hD2 : isL .i64 D2 d := hD2
 have hd2 : D2.length * 8 ≤ 140737488355328 := by rw [hD2.len]; exact hd1
 obtain ⟨j, hj, hjn, hjt⟩ := htj
 rw [hjt] at hdr hda
 have hk1 : Kp [2 + 8 * j, 3 + 8 * j, 4 + 8 * j, 5 + 8 * j, 6 + 8 * j, 7 + 8 * j, 8 + 8 * j, 9 + 8 * j] := ⟨⟩
 have hkr : Kp [4 + 8 * j, 5 + 8 * j] := ⟨⟩
 have hka : Kp [8 + 8 * j, 9 + 8 * j] := ⟨⟩
 have hkfr : Kp (List.set [0, 1, 2, 3, 4, 5, 6, 7, 8, 9] (5 + 8 * j) 11) := ⟨⟩
 have hkfa : Kp (List.set [0, 1, 2, 3, 4, 5, 6, 7, 8, 9] (9 + 8 * j) 11) := ⟨⟩
 have hjs : j = 0 := by omega
 clear hwi hjn hspoil hjt hw
 cbv
 refine br_f (show I.cmp .neq 0 0 = false from by rw [hI]; rfl) ?_
 cbv
 refine .drawn [2, 3, 4, 5, 6, 7, 8, 9] ?_
 cbv
 rcases hjs with rfl
 all_goals
  refine .idx _ hj (by decide) ?_
  cbv
  refine .go [] [] [] hreq rfl rfl rfl rfl rfl rfl ?_
  rintro v m1 ⟨rq, hrq, rfl, rfl⟩
  cbv
  refine .go (sOf hk1) [] [] (sort_ hp (.sym rq) o i _ _ _ _) rfl rfl rfl rfl rfl rfl ?_
  rintro v m1 ⟨⟨hs, rfl⟩ | ⟨hs, rfl⟩, rfl⟩
  ·have hs : rq = true := hs
   have h9 := hdr (hrq.symm.trans hs)
   obtain ⟨hde, hrm⟩ := h9
   cbv
   refine .go (sOf hkr) [] [.keep, .bor 1] (k_put hp ⟨.sym k, .sym f, .sym t, .sym i2, .sym l, .sym p, .sym s, .sym b⟩ D2 d hD2 hd2 _ _ (by first | assumption | decide) (by first | assumption | decide) (by assumption)) rfl rfl rfl rfl rfl rfl ?_
   rintro v m1 ⟨t2, rfl, ⟨rfl, h6, rfl⟩ | ⟨rfl, h6, X1, hX1, rfl⟩⟩
   ·have h9 := hfull _ _ hde rfl (by rw [hrm]; exact h6)
    cbv
    refine br_t (show I.cmp .neq 5 0 = true from by rw [hI]; rfl) ?_
    cbv
    exact hP _ _ [0, 1, 2, 3, 4, 5, 6, 7, 8, 9] [] _ _ (by decide) rfl rfl rfl rfl rfl ⟨_, ⟨.sym 5, rfl, h9⟩, .inl ⟨hF', rfl⟩⟩
   ·have h9 := hput2 _ _ _ hde rfl (by rw [hrm]; exact h6) hX1
    obtain ⟨pq, hX1, lX, hfin⟩ := h9
    clear hX1 h6
    cbv
    refine br_f (show I.cmp .neq 0 0 = false from by rw [hI]; rfl) ?_
    cbv
    refine .go (sOf hkfr) [] [] (find1 hp (.sym z) hzr o i _ _ _ _ (by assumption) (by assumption) (by assumption) (by assumption)) rfl rfl rfl rfl rfl rfl ?_
    rintro v m1 (⟨q2, n2, x, L, hq2, hx, hz2, hn, rfl, rfl⟩ | ⟨h, rfl, rfl⟩)
    ·have h9 := huni q2 n2 L hq2 hz2 hn
     obtain ⟨h7, h8⟩ := h9
     subst h7
     subst h8
     cases hq2.symm.trans hLa
     have hkq : Kp [2 + 4 * q, 3 + 4 * q] := ⟨⟩
     clear huni
     rcases (show q = 0 ∨ q = 1 from hcs) with rfl | rfl
     all_goals
      cases hLa
      cbv
      refine .go (sOf hkq) [] [] (p_remove hp (.sym x) _ _ ps' hPa (okQ.len hok) hla) rfl rfl rfl rfl rfl rfl ?_
      rintro v m1 (⟨h, _⟩ | ⟨n3, r3, D3, LR, hn3, hr3, hD3, hLR, rfl, rfl⟩)
      ·exact absurd h (notOut hx (lenIs hPa hn))
      ·obtain rfl : n3 = n := isN_eq hn3 hx
       have h9 := hfin LR hLR
       cbv
       exact hP _ _ [0, 1, 2, 3, 4, 5, 6, 7, 8, 9, 11, 13] [] _ _ (by decide) rfl rfl rfl rfl rfl ⟨_, ⟨.lit 0, rfl, h9.1⟩, .inr (.inr ⟨_, _, X1, LR, by decide, by decide, by decide, h9.2, rfl⟩)⟩
    ·exact absurd h hbig
  ·have hs : rq = false := hs
   have h9 := hda (hrq.symm.trans hs)
   obtain ⟨hde, hrm⟩ := h9
   cbv
   refine .go (sOf hka) [] [.keep, .bor 1] (k_put hp ⟨.sym k, .sym f, .sym t, .sym i2, .sym l, .sym p, .sym s, .sym b⟩ D2 d hD2 hd2 _ _ (by first | assumption | decide) (by first | assumption | decide) (by assumption)) rfl rfl rfl rfl rfl rfl ?_
   rintro v m1 ⟨t2, rfl, ⟨rfl, h6, rfl⟩ | ⟨rfl, h6, X1, hX1, rfl⟩⟩
   ·have h9 := hfull _ _ hde rfl (by rw [hrm]; exact h6)
    cbv
    refine br_t (show I.cmp .neq 5 0 = true from by rw [hI]; rfl) ?_
    cbv
    exact hP _ _ [0, 1, 2, 3, 4, 5, 6, 7, 8, 9] [] _ _ (by decide) rfl rfl rfl rfl rfl ⟨_, ⟨.sym 5, rfl, h9⟩, .inl ⟨hF', rfl⟩⟩
   ·have h9 := hput2 _ _ _ hde rfl (by rw [hrm]; exact h6) hX1
    obtain ⟨pq, hX1, lX, hfin⟩ := h9
    clear hX1 h6
    cbv
    refine br_f (show I.cmp .neq 0 0 = false from by rw [hI]; rfl) ?_
    cbv
    refine .go (sOf hkfa) [] [] (find1 hp (.sym z) hzr o i _ _ _ _ (by assumption) (by assumption) (by assumption) (by assumption)) rfl rfl rfl rfl rfl rfl ?_
    rintro v m1 (⟨q2, n2, x, L, hq2, hx, hz2, hn, rfl, rfl⟩ | ⟨h, rfl, rfl⟩)
    ·have h9 := huni q2 n2 L hq2 hz2 hn
     obtain ⟨h7, h8⟩ := h9
     subst h7
     subst h8
     cases hq2.symm.trans hLa
     have hkq : Kp [2 + 4 * q, 3 + 4 * q] := ⟨⟩
     clear huni
     rcases (show q = 0 ∨ q = 1 from hcs) with rfl | rfl
     all_goals
      cases hLa
      cbv
      refine .go (sOf hkq) [] [] (p_remove hp (.sym x) _ _ ps' hPa (okQ.len hok) hla) rfl rfl rfl rfl rfl rfl ?_
      rintro v m1 (⟨h, _⟩ | ⟨n3, r3, D3, LR, hn3, hr3, hD3, hLR, rfl, rfl⟩)
      ·exact absurd h (notOut hx (lenIs hPa hn))
      ·obtain rfl : n3 = n := isN_eq hn3 hx
       have h9 := hfin LR hLR
       cbv
       exact hP _ _ [0, 1, 2, 3, 4, 5, 6, 7, 8, 9, 11, 13] [] _ _ (by decide) rfl rfl rfl rfl rfl ⟨_, ⟨.lit 0, rfl, h9.1⟩, .inr (.inr ⟨_, _, X1, LR, by decide, by decide, by decide, h9.2, rfl⟩)⟩
    ·exact absurd h hbig
theorem deliverU1 (z : Z) (hzr : -9223372036854775808 ≤ z.val ∧ z.val ≤ 9223372036854775807) (bz : Z) (hb : -9223372036854775808 ≤ bz.val ∧ bz.val ≤ 9223372036854775807) (mz : Z) (mask : BitVec 16) (hm : mz.val = w16 mask) (o i : Int) (h0 : 0 ≤ o) (h1 : o ≤ 999999) (g0 : 0 ≤ i) (g1 : i ≤ 999999) (L0 L1 L2 L3 : List (List G)) (ps : List (List PK)) (hF : FIs 1 o i 0 [L0, L1, L2, L3] ps) : LValid P 14 [.c (.ptr 0 (.lit 0) 1 0), .c (.g (.int .i64 z)), .c (.g (.int .i64 bz)), .c (.g (.int .u16 mz))] (fabM o i 1 [L0, L1, L2, L3])
  (fun v m1 => ∃ (M0 M1 M2 M3 : List (List G)) (ps' : List (List PK)), (∃ t, v = i64 t ∧ DelR i ps z.val bz.val mask t ps') ∧ FIs 1 o i 0 [M0, M1, M2, M3] ps' ∧ m1 = fabU o i 1 [M0, M1, M2, M3]) :=
 up1 (fun I v ps ⟨t, h, _⟩ => by subst h; exact ⟨rfl, fun _ _ => rfl⟩) (del1 hp z hzr bz hb mz mask hm o i h0 h1 g0 g1 L0 L1 L2 L3 ps hF)
end
end Go.Proofs.Ytofdnnjkfpomcaa.E

/- The network of 1 nodes: New. -/
namespace Go.Proofs.Ytofdnnjkfpomcaa.E
open Go
set_option linter.unusedVariables false
set_option maxRecDepth 100000
section
variable {P : Program} (hp : P = Try.prog)
include hp
set_option maxHeartbeats 16000000 in
theorem new1 (z0 z1 z2 z3 z4 z5 z6 : Z) (l : List (List G)) (hN : z0.val = 1) : LValid P 8 [.agg [.g (.int .i64 z0), .g (.int .i64 z1), .g (.int .i64 z2), .g (.int .i64 z3), .g (.int .i64 z4), .g (.int .i64 z5), .g (.int .i64 z6), .bor 1 l]] []
  (fun v m1 => ∃ ro ri : Int, ro = max 0 z5.val ∧ ri = max 0 z6.val ∧ v = .one (.c (.ptr 0 (.lit 0) 1 0)) ∧ m1 = fabM ro ri 1 [[], [], [], []]) := by
 refine LValid.sy ?_
 show LValid P 8 [.agg [.g (.int .i64 (.sym z0.val)), .g (.int .i64 (.sym z1.val)), .g (.int .i64 (.sym z2.val)), .g (.int .i64 (.sym z3.val)), .g (.int .i64 (.sym z4.val)), .g (.int .i64 (.sym z5.val)), .g (.int .i64 (.sym z6.val)), .bor 1 l]] _ _
 rw [hN]
 generalize z1.val = a1, z2.val = a2, z3.val = a3, z4.val = a4, z5.val = ou, z6.val = inn
 obtain ⟨ro, hro⟩ : ∃ ro, ro = max 0 ou := ⟨_, rfl⟩
 obtain ⟨ri, hri⟩ : ∃ ri, ri = max 0 inn := ⟨_, rfl⟩
 obtain ⟨I, hI⟩ := ref
 refine fn_sim hI (mo hp) (cc hp c8) fun Post hP => ?_
 cbv
 refine .loop_next (fun n ts m => ∃ (j : Nat) (z : Int), n = 1 - j ∧ isN z j ∧ j ≤ 1 ∧ ts = fr 34 [(1, .one (.c (.ptr 0 (.lit 0) 8 0))), (3, .one (.c (.ptr 1 (.lit 0) 1 0))), (7, i64 1), (8, i64 z)] ∧ m = newM 1 a1 a2 a3 a4 ou inn l ro ri j)
  1 _ _ [0, 1] [] [1, 3, 7, 8] (by decide) rfl rfl rfl ⟨0, 0, rfl, rfl, Nat.zero_le _, rfl, rfl⟩ ?_
 rintro next n hnext ts m ⟨j, z, hnn, hz, hj, rfl, rfl⟩
 have hz1 : isN (I.bin .add .i64 z 1) (j + 1) := by unfold isN at hz ⊢; rw [hI]; simp only [ints, rBin]; rw [wrap_in] <;> omega
 have hcm : (j < 1 → I.cmp .lss z 1 = true) ∧ (j = 1 → I.cmp .lss z 1 = false) := by
  unfold isN at hz
  rw [hI]
  simp only [ints, rCmp, decide_eq_true_eq, decide_eq_false_iff_not]
  omega
 have hcs : j = 0 ∨ j = 1 := by omega
 clear hj
 rcases hcs with rfl | rfl
 ·have hc := hcm.1 (by decide)
  clear hcm
  cbv
  refine br_t hc ?_
  cbv
  refine .drawn [1] ?_
  repeat' first
   | (refine .both ?_ ?_ <;> cbv)
   | (refine .go [] [] [] (p_new hp (.sym ou)) rfl rfl rfl rfl rfl rfl ?_; rintro v m1 ⟨rm, hrm, rfl, rfl⟩; (obtain rfl : ro = rm := (hrm.trans hro.symm).symm); cbv)
   | (refine .go [] [] [] (k_new hp (.sym inn)) rfl rfl rfl rfl rfl rfl ?_; rintro v m1 ⟨rm, hrm, rfl, rfl⟩; (obtain rfl : ri = rm := (hrm.trans hri.symm).symm); cbv)
   | (refine .go [] [] [] (k_new hp (.lit 1)) rfl rfl rfl rfl rfl rfl ?_; rintro v m1 ⟨rm, hrm, rfl, rfl⟩; (obtain rfl : rm = 1 := hrm); cbv)
   | (refine .most (by decide) (by decide) ?_; cbv)
  all_goals exact hnext _ _ 0 [0, 1, 11, 2, 3, 4, 5, 6, 7, 8, 9] [] [1, 3, 7, 8] _ _ (by omega) (by decide) rfl rfl rfl ⟨1, _, rfl, hz1, by decide, rfl, rfl⟩
 ·have hc := hcm.2 rfl
  clear hcm
  cbv
  refine br_f hc ?_
  cbv
  exact hP _ _ [1, 2, 3, 4, 5, 6, 7, 8, 9, 10] [] _ _ (by decide) rfl rfl rfl rfl rfl ⟨ro, ri, hro, hri, rfl, rfl⟩
end
end Go.Proofs.Ytofdnnjkfpomcaa.E

/- Contracts: plan, play.Config. -/
namespace Go.Proofs.Ytofdnnjkfpomcaa.E
open Go
set_option linter.unusedVariables false
set_option maxRecDepth 100000

/-- A configuration's cells. -/
def cfg (a b c d e f g : Z) (x : C) : List C := [.g (.int .i64 a), .g (.int .i64 b), .g (.int .i64 c), .g (.int .i64 d), .g (.int .i64 e), .g (.int .i64 f), .g (.int .i64 g), x]
section
variable {P : Program} (hp : P = Try.prog)
include hp
omit hp in
theorem inB_prod (v b c : Int) (hb : 1 ≤ b ∧ b ≤ 4) (hc : 1 ≤ c ∧ c ≤ 2) : IntKind.i64.wrap (b * c) = b * c := by
 have h1 : 0 ≤ b * c := Int.mul_nonneg (by omega) (by omega)
 have h2 : b * c ≤ 4 * 2 := Int.mul_le_mul hb.2 hc.2 (by omega) (by omega)
 rw [wrap_in] <;> omega
omit hp in
theorem inc_in (v n : Int) (h : 0 < n) (hn : n ≤ 4611686018427387904) : 1 ≤ ints.bin .add .i64 1 (win v n) ∧ ints.bin .add .i64 1 (win v n) ≤ n := by
 obtain ⟨h1, h2⟩ := win_in v n h hn
 have : ints.bin .add .i64 1 (win v n) = IntKind.i64.wrap (1 + win v n) := rfl
 rw [this, wrap_in] <;> omega
omit hp in
theorem mul_in (x y : Int) (hx : 1 ≤ x ∧ x ≤ 4) (hy : 1 ≤ y ∧ y ≤ 2) : ∃ n, isN (ints.bin .mul .i64 x y) n ∧ n ≤ 8 := by
 refine ⟨(x * y).toNat, ?_, ?_⟩
 rotate_left
 ·have h2 : x * y ≤ 4 * 2 := Int.mul_le_mul hx.2 hy.2 (by omega) (by omega)
  omega
 have h1 : 0 ≤ x * y := Int.mul_nonneg (by omega) (by omega)
 have h2 : x * y ≤ 4 * 2 := Int.mul_le_mul hx.2 hy.2 (by omega) (by omega)
 have : ints.bin .mul .i64 x y = IntKind.i64.wrap (x * y) := rfl
 unfold isN
 rw [this, wrap_in] <;> omega
end
end Go.Proofs.Ytofdnnjkfpomcaa.E

/- Contracts: a home's rows. -/
namespace Go.Proofs.Ytofdnnjkfpomcaa.E
open Go
set_option linter.unusedVariables false
set_option maxRecDepth 100000

/-- A row. -/
structure RW where
 s : Int
 h : Int
 d : List Int
def rowD (z : Int) (r : RW) : List G := [.int .i64 (.sym z), .int .i64 (.sym r.s), .int .i64 (.sym r.h), .rows 1 (nrow .i64 r.d)]
def isD (M : List (List G)) (f : Int → Option RW) : Prop := ∀ z, mfind M z = (f z).map (rowD z)
theorem mfind_mset3 (z : Int) (row : List G) (hr : rowKey row = some z) (z' : Int) : ∀ (M : List (List G)), mfind (mset M z row) z' = if z' = z then some row else mfind M z'
 | [] => by
  by_cases h : z' = z
  ·subst h; simp [mset, mfind, hr]
  ·have : ¬ z = z' := fun e => h e.symm
   simp [mset, mfind, hr, h, this]
 | r :: M => by
  unfold mset
  split
  ·rename_i hk
   have hk : rowKey r = some z := by simpa using hk
   by_cases h : z' = z
   ·subst h; simp [mfind, hr]
   ·have : ¬ z = z' := fun e => h e.symm
    simp [mfind, hr, hk, h, this]
  ·rename_i hk
   have hk : ¬ rowKey r = some z := by simpa using hk
   have ih := mfind_mset3 z row hr z' M
   unfold mfind at ih ⊢
   rw [List.find?_cons, List.find?_cons]
   by_cases h : rowKey r = some z'
   ·have : ¬ z' = z := fun e => hk (by rw [h, e])
    simp [h, this]
   ·have : (rowKey r == some z') = false := by simpa using h
    rw [this]
    exact ih
theorem isD.nil : isD [] (fun _ => none) := fun z => rfl
theorem isD.put {M : List (List G)} {f : Int → Option RW} (h : isD M f) (z : Int) (r : RW) : isD (mset M z (rowD z r)) (fun y => if y = z then some r else f y) := fun y => by
 rw [mfind_mset3 z _ rfl y M, h y]
 show _ = (if y = z then some r else f y).map (rowD y)
 by_cases e : y = z
 ·subst e
  rw [if_pos rfl, if_pos rfl]
  rfl
 ·rw [if_neg e, if_neg e]
/-- A configuration, as numbers. -/
structure CF where
 a : Int
 b : Int
 c : Int
 d : Int
 e : Int
 f : Int
 g : Int
 ini : List Int
structure CF.ok (q : CF) : Prop where
 ha : 1 ≤ q.a ∧ q.a ≤ 4
 hb : 1 ≤ q.b ∧ q.b ≤ 4
 hc : 1 ≤ q.c ∧ q.c ≤ 2
 hd : 1 ≤ q.d ∧ q.d ≤ 2
 hi : q.ini.length ≤ 8 ∧ (q.ini.length : Int) ≤ q.b * q.c
def CF.cells (q : CF) (x : C) : List C := cfg (.sym q.a) (.sym q.b) (.sym q.c) (.sym q.d) (.sym q.e) (.sym q.f) (.sym q.g) x
/-- A configuration as it is told: its first words frozen. -/
def CF.told (q : CF) (L : List (List G)) : V1 := .agg (q.cells (.g (.rows 1 L)))
section
variable {P : Program} (hp : P = Try.prog)
include hp
end
end Go.Proofs.Ytofdnnjkfpomcaa.E

/- Contract: which configuration a setup gives. -/
namespace Go.Proofs.Ytofdnnjkfpomcaa.E
open Go
set_option linter.unusedVariables false
set_option maxRecDepth 100000

/-- The configuration of a setup. -/
def CFof (a b c d e f g : Int) (xs : List Int) : CF := ⟨rBin .add .i64 1 (win a 4), rBin .add .i64 1 (win b 4), rBin .add .i64 1 (win c 2), rBin .add .i64 1 (win d 2), rBin .add .i64 1 (win e 2), rBin .add .i64 1 (win f 3), rBin .add .i64 1 (win g 3), xs.take (rBin .mul .i64 (rBin .add .i64 1 (win b 4)) (rBin .add .i64 1 (win c 2))).toNat⟩
section
variable {P : Program} (hp : P = Try.prog)
include hp
set_option maxHeartbeats 4000000 in
/-- The configuration of a setup, frozen: which one. -/
theorem configE (a b c d e f g : Int) (l l1 l2 l3 l4 : List (List G)) (xs : List Int) (hx : isL .i64 l xs) : LValid P 18 [.agg [.g (.int .i64 (.sym a)), .g (.int .i64 (.sym b)), .g (.int .i64 (.sym c)), .g (.int .i64 (.sym d)), .g (.int .i64 (.sym e)), .g (.int .i64 (.sym f)), .g (.int .i64 (.sym g)), .bor 1 l, .bor 1 l1, .bor 1 l2, .bor 1 l3, .bor 1 l4]] []
  (fun v m1 => (CFof a b c d e f g xs).ok ∧ ∃ L : List (List G), isL .i64 L (CFof a b c d e f g xs).ini ∧ v = .one ((CFof a b c d e f g xs).told L) ∧ m1 = []) := by
 obtain ⟨I, hI⟩ := ref
 refine fn_sim hI (mo hp) (cc hp c18) fun Post hP => ?_
 cbv
 refine .drawn [] ?_
 repeat' first
  | (refine .both ?_ ?_)
  | (refine .go [] [] [] (within hp _ _) rfl rfl rfl rfl rfl rfl ?_; rintro r m1 ⟨y, hy, rfl, rfl⟩; cbv)
 all_goals
  rename_i y1 h1 y2 h2 y3 h3 y4 h4 y5 h5 y6 h6
  as_aux_lemma =>
   have q1 := inc_in a 4 (by omega) (by omega)
   have q2 := inc_in b 4 (by omega) (by omega)
   have q3 := inc_in c 2 (by omega) (by omega)
   have q4 := inc_in d 2 (by omega) (by omega)
   rw [← show y1 = win a 4 from h1, ← hI] at q1
   rw [← show y2 = win b 4 from h2, ← hI] at q2
   rw [← show y3 = win c 2 from h3, ← hI] at q3
   rw [← show y4 = win d 2 from h4, ← hI] at q4
   have h9 : ∃ n : Nat, isN (I.bin .mul .i64 (I.bin .add .i64 1 y2) (I.bin .add .i64 1 y3)) n ∧ n ≤ 8 := by
    have := mul_in _ _ q2 q3
    rw [← hI] at this
    exact this
   obtain ⟨n, hn, hn8⟩ := h9
   have hpr : ((n : Int)) = (I.bin .add .i64 1 y2) * (I.bin .add .i64 1 y3) := by
    have h : IntKind.i64.wrap ((I.bin .add .i64 1 y2) * (I.bin .add .i64 1 y3)) = (I.bin .add .i64 1 y2) * (I.bin .add .i64 1 y3) := by first | exact inB_prod hp 0 _ _ q2 q3 | exact inB_prod 0 _ _ q2 q3
    have hn : I.bin .mul .i64 (I.bin .add .i64 1 y2) (I.bin .add .i64 1 y3) = (n : Int) := hn
    rw [← hn, ← h, hI]
    rfl
   have hlen : (xs.take n).length ≤ 8 ∧ (((xs.take n).length : Nat) : Int) ≤ (I.bin .add .i64 1 y2) * (I.bin .add .i64 1 y3) := by
    rw [← hpr, List.length_take]
    omega
   have hok : CF.ok ⟨I.bin .add .i64 1 y1, I.bin .add .i64 1 y2, I.bin .add .i64 1 y3, I.bin .add .i64 1 y4, I.bin .add .i64 1 y5, I.bin .add .i64 1 y6, I.bin .add .i64 1 y, xs.take n⟩ := ⟨q1, q2, q3, q4, hlen⟩
   have hrow : ∀ l' : List (List G), l' = l.take n → l' = nrow .i64 (xs.take n) := fun l' h => by rw [h, hx]; simp [nrow, List.map_take]
   clear hpr hlen q1 q2 q3 q4
   refine .go [] [] [.bor 1, .keep] (cut8 hp l (.sym _) n hn hn8) rfl rfl rfl rfl rfl rfl ?_
   rintro r m1 ⟨l', hl', rfl, rfl⟩
   have hr2 := hrow l' hl'
   have hcf : CF.mk (I.bin .add .i64 1 y1) (I.bin .add .i64 1 y2) (I.bin .add .i64 1 y3) (I.bin .add .i64 1 y4) (I.bin .add .i64 1 y5) (I.bin .add .i64 1 y6) (I.bin .add .i64 1 y) (xs.take n) = CFof a b c d e f g xs := by
    have hnn : n = (rBin .mul .i64 (rBin .add .i64 1 (win b 4)) (rBin .add .i64 1 (win c 2))).toNat := by
     have hn : I.bin .mul .i64 (I.bin .add .i64 1 y2) (I.bin .add .i64 1 y3) = (n : Int) := hn
     rw [hI, show y2 = win b 4 from h2, show y3 = win c 2 from h3] at hn
     have hn : rBin .mul .i64 (rBin .add .i64 1 (win b 4)) (rBin .add .i64 1 (win c 2)) = (n : Int) := hn
     rw [hn]
     rfl
    unfold CFof
    rw [← hnn, hI, show y1 = win a 4 from h1, show y2 = win b 4 from h2, show y3 = win c 2 from h3, show y4 = win d 2 from h4, show y5 = win e 2 from h5, show y6 = win f 3 from h6, show y = win g 3 from hy]
    rfl
   have hv : (CFof a b c d e f g xs).ok ∧ ∃ L : List (List G), isL .i64 L (CFof a b c d e f g xs).ini ∧ A.one (.agg (cfg (.sym (I.bin .add .i64 1 y1)) (.sym (I.bin .add .i64 1 y2)) (.sym (I.bin .add .i64 1 y3)) (.sym (I.bin .add .i64 1 y4)) (.sym (I.bin .add .i64 1 y5)) (.sym (I.bin .add .i64 1 y6)) (.sym (I.bin .add .i64 1 y)) (.g (.rows 1 l')))) = .one ((CFof a b c d e f g xs).told L) ∧ ([] : Mem) = [] := by
    rw [← hcf]
    exact ⟨hok, l', hr2, rfl, rfl⟩
   clear hr2 hl' hok hrow hcf
   cbv
   exact hP _ _ [] [3] _ _ (by decide) rfl rfl rfl rfl rfl hv
end
end Go.Proofs.Ytofdnnjkfpomcaa.E

/- What the wire does to packets that are made: spoilt at their top digit, or not at all. -/
namespace Go.Proofs.Ytofdnnjkfpomcaa.E
open Go
set_option linter.unusedVariables false
set_option maxRecDepth 100000

/-- The packet that is made of any, between nodes of a network of n. -/
def pkW (n : Int) (q : PK) : PK := ⟨(pk0 q).k, win (pk0 q).f n, win (pk0 q).t n, (pk0 q).i, (pk0 q).l, (pk0 q).p, (pk0 q).s, (pk0 q).b, (pk0 q).d⟩
theorem pkW_send {n : Int} (q : PK) (h1 : 1 ≤ n) (h4 : n ≤ 4) : sendB n (pkW n q) = true := by
 have h := pk0_check q
 have a1 := win_in (pk0 q).f n (by omega) (by omega)
 have a2 := win_in (pk0 q).t n (by omega) (by omega)
 unfold sendB checkB belB pkW
 unfold checkB belB at h
 simp only [Bool.and_eq_true, decide_eq_true_eq] at h ⊢
 omega
theorem send_kind {n : Int} {q : PK} (h : sendB n q = true) : checkB q = true ∧ 1 ≤ q.k ∧ belB q.t 0 n = true ∧ q.d.length ≤ 4 := by
 unfold sendB at h
 simp only [Bool.and_eq_true] at h
 refine ⟨h.1.1, ?_, h.2, ?_⟩
 ·have := h.1.1
  unfold checkB belB at this
  simp only [Bool.and_eq_true, decide_eq_true_eq] at this
  omega
 ·have := h.1.1
  unfold checkB belB at this
  simp only [Bool.and_eq_true, decide_eq_true_eq] at this
  omega
theorem neq_eq {I : Ints} (hI : I = ints) {a b : Int} (h : a = b) : I.cmp .neq a b = false := by rw [hI, h]; simp [ints, rCmp]
section
variable {P : Program} (hp : P = Try.prog)
include hp
theorem pplayF (q : PK) (D : List (List G)) (hD : isL .i64 D q.d) : LValid P 19 [q.told (.bor 1 D), .c (.g (.int .i64 (.lit 0)))] []
  (fun v m1 => ∃ (r : PK) (D' : List (List G)), r = pk0 q ∧ isL .i64 D' r.d ∧ v = .one (r.told (.g (.rows 1 D'))) ∧ m1 = []) := by
 obtain ⟨I, hI⟩ := ref
 refine LValid.post hI (pplay0 hp q D hD) ?_
 rintro v m1 ⟨r, D', hr, hD', rfl, rfl⟩
 exact ⟨[], [0], .nil, rfl, rfl, (fun id blk h => by simp [invMem] at h), r, D', hr, hD', rfl, rfl⟩
end
end Go.Proofs.Ytofdnnjkfpomcaa.E

/- Acts of a network as rows; bounds. -/
namespace Go.Proofs.Ytofdnnjkfpomcaa.E
open Go
set_option linter.unusedVariables false
set_option maxRecDepth 100000

/-- Something done with a network. -/
structure AC where
 do_ : Int
 at_ : Int
 bit : Int
 mask : BitVec 16
 pk : PK
 how : Int
def AC.row (a : AC) : List G := [.int .i64 (.sym a.do_), .int .i64 (.sym a.at_), .int .i64 (.sym a.bit), .int .u16 (.sym (w16 a.mask)), .int .i64 (.sym a.pk.k), .int .i64 (.sym a.pk.f), .int .i64 (.sym a.pk.t), .int .i64 (.sym a.pk.i), .int .i64 (.sym a.pk.l), .int .i64 (.sym a.pk.p), .int .i64 (.sym a.pk.s), .bool (.sym a.pk.b), .rows 1 (nrow .i64 a.pk.d), .int .i64 (.sym a.how)]
def in64 (x : Int) : Prop := -9223372036854775808 ≤ x ∧ x ≤ 9223372036854775807
def AC.ok (a : AC) : Prop := in64 a.at_ ∧ in64 a.bit ∧ ∀ y ∈ a.pk.d, in64 y
theorem andm16 (m : BitVec 16) (x : Int) : rBin .and .u16 (w16 m) x = w16 (m &&& BitVec.ofInt 16 x) := by
 show IntKind.u16.wrap (BitVec.ofInt 16 (w16 m) &&& BitVec.ofInt 16 x).toNat = _
 have e1 : BitVec.ofInt 16 (w16 m) = m := by unfold w16; simp
 rw [e1, IntKind.wrap_u16]
 unfold w16
 have := (m &&& BitVec.ofInt 16 x).isLt
 show ((m &&& BitVec.ofInt 16 x).toNat : Int) % 65536 = _
 omega
theorem win_any (v n : Int) (h : 0 ≤ n) (hn : n ≤ 4611686018427387904) : in64 (win v n) := by
 unfold in64
 rcases (show n = 0 ∨ 0 < n by omega) with rfl | h
 ·have : win v 0 = 0 := rfl
  omega
 ·have := win_in v n h hn
  omega
theorem room1 (o i : Int) (j : Nat) : roomC o i (0 + (4 * j + 1)) = i := by
 have h : (0 + (4 * j + 1)) % 4 = 1 := by omega
 unfold roomC
 rw [h]
 rfl
theorem room3 (o i : Int) (j : Nat) : roomC o i (0 + (4 * j + 3)) = 1 := by
 have h : (0 + (4 * j + 3)) % 4 = 3 := by omega
 unfold roomC
 rw [h]
 rfl
theorem room0 (o i : Int) (j : Nat) : roomC o i (0 + (4 * j + 0)) = o := by
 have h : (0 + (4 * j + 0)) % 4 = 0 := by omega
 unfold roomC
 rw [h]
 rfl
theorem room2 (o i : Int) (j : Nat) : roomC o i (0 + (4 * j + 2)) = o := by
 have h : (0 + (4 * j + 2)) % 4 = 2 := by omega
 unfold roomC
 rw [h]
 rfl
theorem num_in {n o i z t : Int} {Ls : List (List (List G))} {ps : List (List PK)} {k j : Nat} (hF : FIs n o i 0 Ls ps) (h : NumR n ps z k t) (hz : isN z j) (hj : (j : Int) < n) : ∃ p, ps[4 * j + k]? = some p ∧ isN t p.length ∧ (p.length : Int) ≤ roomC o i (0 + (4 * j + k)) := by
 rcases h with ⟨h, _⟩ | ⟨j2, p, h1, h2, h3, h4⟩
 ·exfalso
  unfold belB at h
  unfold isN at hz
  simp only [Bool.and_eq_false_iff, decide_eq_false_iff_not] at h
  omega
 ·obtain rfl : j2 = j := isN_eq h1 hz
  obtain ⟨L, _, _, _, h5⟩ := hF.get _ _ _ _ _ h3
  exact ⟨p, h3, h4, h5⟩
theorem room_in {n o i z t : Int} {Ls : List (List (List G))} {ps : List (List PK)} {k j : Nat} (hF : FIs n o i 0 Ls ps) (hk : roomC o i (0 + (4 * j + k)) = o) (h : (belB z 0 n = false ∧ t = 0) ∨ ∃ (j : Nat) (p : List PK), isN z j ∧ (j : Int) < n ∧ ps[4 * j + k]? = some p ∧ t = o - (p.length : Int)) (hz : isN z j) (hj : (j : Int) < n) : 0 ≤ t := by
 rcases h with ⟨_, h⟩ | ⟨j2, p, h1, h2, h3, h4⟩
 ·omega
 ·obtain rfl : j2 = j := isN_eq h1 hz
  obtain ⟨L, _, _, _, h5⟩ := hF.get _ _ _ _ _ h3
  rw [hk] at h5
  omega
theorem gtr_no {I : Ints} (hI : I = ints) {a b : Int} (h : a ≤ b) : I.cmp .gtr a b = false := by rw [hI]; simp only [ints, rCmp, decide_eq_false_iff_not]; omega
theorem lss_no {I : Ints} (hI : I = ints) {a b : Int} (h : b ≤ a) : I.cmp .lss a b = false := by rw [hI]; simp only [ints, rCmp, decide_eq_false_iff_not]; omega
theorem lss_iff {I : Ints} (hI : I = ints) {z b : Int} {j n : Nat} (hz : isN z j) (hb : b = (n : Int)) : I.cmp .lss z b = true ↔ j < n := by
 unfold isN at hz
 rw [hI, hz, hb]
 simp only [ints, rCmp, decide_eq_true_eq]
 omega
theorem inc_n {I : Ints} (hI : I = ints) {z : Int} {j : Nat} (hz : isN z j) (h : j < 1000000) : isN (I.bin .add .i64 z 1) (j + 1) := by
 unfold isN at hz ⊢
 rw [hI]
 simp only [ints, rBin]
 rw [wrap_in] <;> omega
theorem add_n {I : Ints} (hI : I = ints) {x y : Int} {a b : Nat} (hx : isN x a) (hy : isN y b) (h : a + b < 1000000) : isN (I.bin .add .i64 x y) (a + b) := by
 unfold isN at hx hy ⊢
 rw [hI]
 simp only [ints, rBin]
 rw [wrap_in] <;> omega
theorem no_lss {I : Ints} {z b : Int} {j n : Nat} (h : I.cmp .lss z b = true ↔ j < n) (g : I.cmp .lss z b = false) : n ≤ j := by
 rcases Nat.lt_or_ge j n with h1 | h1
 ·rw [h.2 h1] at g; cases g
 ·exact h1
theorem wsum_mono : ∀ (a b : Nat) (ps : List (List PK)), a ≤ b → wsum a ps ≤ wsum b ps
 | 0, b, ps, _ => by
  rw [show wsum 0 ps = 0 by cases ps <;> rfl]
  exact Nat.zero_le _
 | a + 1, b + 1, x :: y :: z :: w :: r, h => by
  show y.length + w.length + wsum a r ≤ y.length + w.length + wsum b r
  exact Nat.add_le_add_left (wsum_mono a b r (by omega)) _
 | a + 1, b + 1, [], h => Nat.le_refl _
 | a + 1, b + 1, [_], h => Nat.le_refl _
 | a + 1, b + 1, [_, _], h => Nat.le_refl _
 | a + 1, b + 1, [_, _, _], h => Nat.le_refl _
end Go.Proofs.Ytofdnnjkfpomcaa.E
