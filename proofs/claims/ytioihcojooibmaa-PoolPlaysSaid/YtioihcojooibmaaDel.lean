/- slices.Delete of packets, one of them: by the library's own text. -/
import Derived.Test.YtioihcojooibmaaE17
import Derived.Test.YtioihcojooibmaaRows
import Derived.Deep.RegionLaw
import Derived.Lib.SliceRun
import Derived.WalkKit
import Derived.Lib.Walk
import Derived.Lib.Hide
namespace Go.Proofs.Ytioihcojooibmaa.E
open Go Go.RowKit Go.Lib
set_option linter.unusedVariables false

def zPkt : List Value := [.int .i64 0, .int .i64 0, .int .i64 0, .int .i64 0, .int .i64 0, .int .i64 0, .int .i64 0, .bool false, .slice none 0 0]
theorem infoPkt : (Try.prog.info? 29).map (fun i => (i.size, i.zero)) = some (9, some (.agg zPkt.toArray)) := by kernel_rfl
theorem clear_pkt (W : World) (ty b o c : Nat) (hc : ∀ j, j < 9 → (W.cell? ⟨b, o + j, none⟩).isSome = true) (hf : ∀ j, j < 9 → W.frozen? ⟨b, o + j, none⟩ = false) (n : Nat) (hn : n = 1) :
    (Builtin.clear_ #[38] ty #[.slice (some ⟨b, o, none⟩) n c]).run Try.prog W = .ok (.tuple #[]) (W.setCells b o zPkt) := by
  subst hn
  have hst := run_storeCells_cells (P := Try.prog) b o zPkt 0 W (by simpa [zPkt] using hc) (by simpa [zPkt] using hf) (by simp [zPkt, Value.oneCell'])
  simp only [Nat.add_zero] at hst
  obtain ⟨i, hi, hs, hz⟩ : ∃ i, Try.prog.info? 29 = some i ∧ i.size = 9 ∧ i.zero = some (.agg zPkt.toArray) := by
    have h := infoPkt
    cases hq : Try.prog.info? 29 with
    | none => rw [hq] at h; cases h
    | some i => rw [hq] at h; simp at h; exact ⟨i, rfl, h.1, h.2⟩
  have hzc : (Builtin.zeroCells (Value.agg zPkt.toArray).cells 1).toList = zPkt := by kernel_rfl
  have hzv : (zeroValue 29).run Try.prog W = .ok (.agg zPkt.toArray) W := by simp [zeroValue, typeInfo, hi, hz]
  simp [Builtin.clear_, run_underlying Try.underlying38, hzv, hzc, hst]
set_option maxHeartbeats 4000000 in
theorem del_run (w : World) (a off c n i j0 : Nat) (news : List Value) (hi : i < j0) (hj0 : j0 ≤ n) (hj1 : j0 = i + 1) (hc : n ≤ c) (hcm : n ≤ 9223372036854775807) (hn : news.length = (n - j0) * 9)
    (hsrc : ∀ (j : Nat) (u : Value), news[j]? = some u → w.cell? ⟨a, off + j0 * 9 + j, none⟩ = some u) (h1 : ∀ u ∈ news, u.oneCell' = true)
    (hth : ∀ j, j < c * 9 → (w.cell? ⟨a, off + j, none⟩).isSome = true ∧ w.frozen? ⟨a, off + j, none⟩ = false) :
    Calls Try.prog 22 #[.slice (some ⟨a, off, none⟩) n c, .int .i64 i, .int .i64 j0] w fun e w' => e = .returned (.slice (some ⟨a, off, none⟩) (i + (n - j0)) c) ∧ w' = (w.drew.setCells a (off + i * 9) news).setCells a (off + (i + (n - j0)) * 9) zPkt := by
  obtain ⟨iP, hiP, hz1⟩ : ∃ i, Try.prog.info? 29 = some i ∧ i.size = 9 := by
    have h := infoPkt
    cases hq : Try.prog.info? 29 with
    | none => rw [hq] at h; cases h
    | some i => rw [hq] at h; simp at h; exact ⟨i, rfl, h.1⟩
  obtain ⟨A, hA, hsrcA⟩ : ∃ A : Addr, (if c = j0 then some (⟨a, off, none⟩ : Addr) else some ⟨a, off + j0 * 9, none⟩) = some A ∧ Hid (∀ t u, news[t]? = some u → w.drew.cell? (A.add t) = some u) := by
    by_cases h : c = j0
    · refine ⟨⟨a, off, none⟩, by simp [h], fun t u hu => ?_⟩
      have h0 : news.length = 0 := by rw [hn]; have : n - j0 = 0 := by omega
                                      rw [this]
      rw [List.length_eq_zero_iff.1 h0] at hu
      simp at hu
    · refine ⟨⟨a, off + j0 * 9, none⟩, by simp [h], fun t u hu => ?_⟩
      rw [Addr.add_lit]
      exact hsrc t u hu
  have s1 : Hid (news.length = (n - j0) * 9) := hn
  have s2 : Hid (∀ u ∈ news, u.oneCell' = true) := h1
  have s3 : Hid (∀ t, t < news.length → (w.drew.cell? ⟨a, off + i * 9 + t, none⟩).isSome = true ∧ w.drew.frozen? ⟨a, off + i * 9 + t, none⟩ = false) := by
    intro t ht
    rw [hn] at ht
    rw [Nat.add_assoc]
    exact hth (i * 9 + t) (by omega)
  obtain ⟨W1, hW1⟩ : ∃ W1, W1 = w.drew.setCells a (off + i * 9) news := ⟨_, rfl⟩
  have hcl : ∀ ty, (Builtin.clear_ #[38] ty #[.slice (some ⟨a, off + (i + (n - j0)) * 9, none⟩) (n - (i + (n - j0))) (c - (i + (n - j0)))]).run Try.prog W1 = .ok (.tuple #[]) (W1.setCells a (off + (i + (n - j0)) * 9) zPkt) := fun ty => by
    have key : ∀ j, j < 9 → (W1.cell? ⟨a, off + (i + (n - j0)) * 9 + j, none⟩).isSome = true ∧ W1.frozen? ⟨a, off + (i + (n - j0)) * 9 + j, none⟩ = false := fun j hj => by
      have := hth ((i + (n - j0)) * 9 + j) (by omega)
      rw [← Nat.add_assoc] at this
      rw [hW1]
      exact ⟨World.isSome_setCells a news (off + i * 9) w.drew _ this.1, (World.frozen?_setCells a news (off + i * 9) w.drew _).trans this.2⟩
    exact clear_pkt W1 ty a _ _ (fun j hj => (key j hj).1) (fun j hj => (key j hj).2) _ (by omega)
  have hW : Hid (W1 = w.drew.setCells a (off + i * 9) news) := hW1
  have hic : i ≤ c := by omega
  have hjc : j0 ≤ c := by omega
  clear hW1 hsrc h1 hth hn hj1
  go_enter Try.func22, Try.ntmps22
  go_wp2_with fail
  go_region_law (refine step_append_room rfl (.tmp 22) (.tmp 25) 38 rfl 29 iP 9 Try.underlying38 hiP hz1 a off i c (by simp [Act.eval, Act.put]) A (n - j0) (c - j0) news (by simp [Act.eval, Act.put]) s1.out hsrcA.out s2.out (by omega) s3.out ?_; rw [← hW.out])
  go_wp2
  go_ret
  exact ⟨rfl, by rw [← hW.out]⟩
section
variable {P : Program} (hp : P = Try.prog)
include hp
theorem delete_ (L : List (List G)) (i : Nat) (zi zj : Z) (hi : i < L.length) (hzi : zi.val = (i : Int)) (hzj : zj.val = (i : Int) + 1) (hL : L.length ≤ 140737488355328) :
    LValid P 22 [.c (.row 0 9 none), .c (.g (.int .i64 zi)), .c (.g (.int .i64 zj))] [.sym 9 L] (fun v m1 => v = .one (.c (.row 1 9 none)) ∧ ∃ L', L' = L.eraseIdx i ∧ m1 = [.dead, .sym 9 L']) := by
  subst hp
  intro E w vs hs hsz hr
  have hne : L ≠ [] := fun e => by rw [e] at hi; simp at hi
  obtain ⟨v0, h0, r0⟩ := hr 0 _ rfl
  obtain ⟨v1, h1, r1⟩ := hr 1 _ rfl
  obtain ⟨v2, h2, r2⟩ := hr 2 _ rfl
  have e1 : v1 = .int .i64 i := by
    rcases r1 with r1 | r1
    · cases r1
    · generalize hv : v1 = v at r1
      cases r1
      rw [hzi]
  have e2 : v2 = .int .i64 ((i : Int) + 1) := by
    rcases r2 with r2 | r2
    · cases r2
    · generalize hv : v2 = v at r2
      cases r2
      rw [hzj]
  rcases r0 with r0 | ⟨-, -, r0⟩
  · cases r0
  obtain ⟨-, -, r0⟩ := r0 _ rfl trivial
  have hrl : (Blk.sym 9 L).rows.length = L.length := by simp [Blk.rows]
  rcases hs.rep 0 _ rfl trivial with ⟨q, q0⟩ | ⟨a_, base, q, g1, g2, g3⟩
  · exact absurd (by simpa [Blk.rows] using q0) hne
  rcases r0 with ⟨r0, _⟩ | ⟨a', base', c, p1, p2, p3, -, p5⟩
  · rw [q] at r0; cases r0
  rw [q] at p1
  cases p1
  rw [hrl] at p2 p3
  have hvs : vs = #[.slice (some ⟨a_, base, none⟩) L.length c, .int .i64 i, .int .i64 ((i : Int) + 1)] := by
    apply Array.ext_getElem?
    intro j
    match j with
    | 0 => rw [h0, p2]; rfl
    | 1 => rw [h1, e1]; rfl
    | 2 => rw [h2, e2]; rfl
    | j + 3 => simp at hsz; simp [hsz]
  have hw9 : ∀ (i : Nat) (r : List G), L[i]? = some r → r.length = 9 := fun i r hi => by
    have := (g3 i (r.map C.g) (by simp [Blk.rows, hi])).1
    simpa [Blk.es] using this
  obtain ⟨us, u1, u2, u3, u4⟩ := flat_cells (w := w) (E := E) (a_ := a_) (off := base) (l := L) hw9 (show 0 < 9 by omega) (fun i r j x hi hj => by
    obtain ⟨u, k1, k2⟩ := (g3 i (r.map C.g) (by simp [Blk.rows, hi])).2 j (.g x) (by simp [hj])
    exact ⟨u, k1, k2⟩)
  obtain ⟨news, hnews⟩ : ∃ news, news = us.drop ((i + 1) * 9) := ⟨_, rfl⟩
  have hnl : news.length = (L.length - (i + 1)) * 9 := by rw [hnews, List.length_drop, u1]; omega
  rw [hvs]
  refine (del_run w a_ base c L.length i (i + 1) news (by omega) hi rfl p3 (by omega) hnl (fun j u hj => ?_) (fun u hu => u3 u (by rw [hnews] at hu; exact List.mem_of_mem_drop hu)) (fun j hj => p5 j hj)).mono ?_
  · rw [hnews, List.getElem?_drop] at hj
    have := u2 _ u hj
    unfold at_ at this
    rw [← Nat.add_assoc] at this
    exact this
  rintro e w' ⟨rfl, hw'⟩
  obtain ⟨zs, hzs⟩ : ∃ zs, zs = zPkt := ⟨_, rfl⟩
  rw [← hzs] at hw'
  obtain ⟨N1, hN1⟩ : ∃ N1, N1 = i + (L.length - (i + 1)) := ⟨_, rfl⟩
  rw [← hN1] at hw' ⊢
  obtain ⟨W1, hW1⟩ : ∃ W1, W1 = w.drew.setCells a_ (base + i * 9) news := ⟨_, rfl⟩
  rw [← hW1] at hw'
  have hin : i < L.length := hi
  obtain ⟨k1, k2, k3, k4, k5⟩ := setCells_keep w.drew a_ news (base + i * 9) w.drew
  rw [← hW1] at k1 k2 k3 k4 k5
  obtain ⟨l1, l2, l3, l4, l5⟩ := setCells_keep W1 a_ zs (base + N1 * 9) W1
  rw [← hw'] at l1 l2 l3 l4 l5
  have hst0 : Stays w w.drew := ⟨fun x hx => ⟨hx, rfl⟩, fun a es c h => ⟨es, c, h, fun i e h => ⟨e, h, rfl, rfl⟩⟩⟩
  have hst1 : Stays w.drew W1 := by rw [hW1]; exact stays_setCells _ _ _ _
  have hst2 : Stays W1 w' := by rw [hw']; exact stays_setCells _ _ _ _
  have hst : Stays w w' := (hst0.trans hst1).trans hst2
  have hdis := hs.dis 0 _ a_ base rfl trivial q
  have hbl : ∀ k, k ≠ a_ → w'.heap[k]? = w.heap[k]? := fun k hk => (l5 k hk).trans (k5 k hk)
  have hfr : ∀ k, E.F k → w'.heap[k]? = w.heap[k]? := fun k hk => hbl k (fun e => by subst e; exact hdis.1 hk)
  have hll : (L.eraseIdx i).length = N1 := by rw [List.length_eraseIdx]; simp [hi]; omega
  have hth' : w'.there a_ base (c * 9) := there_stays hst p5
  have hsome : ∀ j, j < news.length → (w.drew.cell? ⟨a_, base + i * 9 + j, none⟩).isSome = true := fun j hj => by
    have := (p5 (i * 9 + j) (by have h9 : (Blk.sym 9 L).es = 9 := rfl; omega)).1
    rw [← Nat.add_assoc] at this
    exact this
  have hg := move_grow (Wt := fun _ => True) (w' := w') (off := base) hs (b := 0) rfl trivial q trivial (l1.trans k1) (l2.trans k2) (l3.trans k3) (l4.trans k4) hbl hst (blk' := .sym 9 (L.eraseIdx i)) (fun j hj => hth' j (by
    have : j < N1 * 9 := by simpa [Blk.rows, Blk.es, hll] using hj
    omega)) (fun r row hr => by
    simp only [Blk.rows, List.getElem?_map] at hr
    obtain ⟨gr, hgr, rfl⟩ := Option.map_eq_some_iff.1 hr
    have hrl2 : r < N1 := by rw [← hll]; exact (List.getElem?_eq_some_iff.1 hgr).1
    rw [List.getElem?_eraseIdx] at hgr
    have fin : ∀ (j : Nat) (x : C) (s : Nat), (gr.map C.g)[j]? = some x → L[s]? = some gr → (∀ u, us[s * 9 + j]? = some u → w'.cell? (at_ a_ (base + (r * 9 + j))) = some u) → ∃ u, w'.cell? (at_ a_ (base + (r * 9 + j))) = some u ∧ ∃ g, x = .g g ∧ GRep E.F w' g u := fun j x s hj hs h => by
      rw [List.getElem?_map] at hj
      obtain ⟨g, hg, rfl⟩ := Option.map_eq_some_iff.1 hj
      obtain ⟨u, q1, q2⟩ := u4 s gr j g hs hg
      exact ⟨u, h u q1, g, rfl, q2.step (fun _ h => h) hfr⟩
    have out2 : ∀ (j : Nat), j < 9 → w'.cell? (at_ a_ (base + (r * 9 + j))) = W1.cell? (at_ a_ (base + (r * 9 + j))) := fun j hj => by
      rw [hw', World.cell?_setCells_out a_ _ _ W1 _ (fun _ _ => .inl (by simp only [at_]; omega))]
    split at hgr
    · rename_i hri
      have h9 := hw9 r gr hgr
      refine ⟨by simpa [Blk.es] using h9, fun j x hj => fin j x r hj hgr (fun u hu => ?_)⟩
      have hj9 : j < 9 := by
        have : j < (gr.map C.g).length := (List.getElem?_eq_some_iff.1 hj).1
        rw [List.length_map] at this
        omega
      rw [out2 j hj9, hW1, World.cell?_setCells_out a_ _ _ w.drew _ (fun _ _ => .inl (by simp only [at_]; omega))]
      exact u2 _ u hu
    · rename_i hri
      have h9 := hw9 (r + 1) gr hgr
      refine ⟨by simpa [Blk.es] using h9, fun j x hj => fin j x (r + 1) hj hgr (fun u hu => ?_)⟩
      have hj9 : j < 9 := by
        have : j < (gr.map C.g).length := (List.getElem?_eq_some_iff.1 hj).1
        rw [List.length_map] at this
        omega
      rw [out2 j hj9, hW1]
      have hlt : (r - i) * 9 + j < news.length := by rw [hnl]; omega
      have := World.cell?_setCells_in a_ news (base + i * 9) w.drew hsome ((r - i) * 9 + j) hlt
      have hv : news[(r - i) * 9 + j] = u := by
        have h1 : news[(r - i) * 9 + j]? = some u := by
          rw [hnews, List.getElem?_drop, show (i + 1) * 9 + ((r - i) * 9 + j) = (r + 1) * 9 + j by omega]
          exact hu
        rw [List.getElem?_eq_getElem hlt] at h1
        exact Option.some.inj h1
      rw [hv] at this
      rw [← this]
      unfold at_
      congr 2
      omega)
  refine ⟨_, .one (.c (.row 1 9 none)), [.dead, .sym 9 (L.eraseIdx i)], _, rfl, ⟨rfl, _, rfl, rfl⟩, .inr ⟨by simp, rfl, fun blk' hb' hl' => ?_⟩, rfl, fun id blk hb => ?_, hg.2, hg.1⟩
  · simp at hb'
    subst hb'
    refine ⟨rfl, fun c' hc' => (by cases hc'), .inr ⟨a_, base, c, rfl, ?_, ?_, fun c' hc' => (by cases hc'), hth'⟩⟩
    · simp only [Blk.rows, List.length_map, hll]
      rfl
    · simp only [Blk.rows, List.length_map, hll]
      omega
  · match id, hb with
    | 0, hb => simp at hb; subst hb; rfl
    | 1, hb => simp at hb; subst hb; rfl
    | n + 2, hb => simp at hb
end
end Go.Proofs.Ytioihcojooibmaa.E
