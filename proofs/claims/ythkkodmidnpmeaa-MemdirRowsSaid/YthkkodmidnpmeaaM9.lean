/- What the law09 laws share: setting told, wakes. -/
import Derived.Test.YthkkodmidnpmeaaMD
namespace Go.Proofs.Ythkkodmidnpmeaa.E
open Go
set_option linter.unusedVariables false
set_option maxRecDepth 100000

theorem ngood (q : CF) (st hd : Int) (h1 : 0 ≤ st ∧ st ≤ 2) (h2 : -1 ≤ hd) (h3 : hd < q.a) : ¬ (st < 0 ∨ 2 < st ∨ hd < -1 ∨ q.a ≤ hd) := by omega
section
variable {P : Program} {I : Ints} {p : Nat}
theorem br2 {b : Bool} {t e : Unit → Tree} {Q : Prop} (h1 : b = true → Q → Holds P I p (t ())) (h2 : b = false → Q → Holds P I p (e ())) (h : Q) : Holds P I p (.br b t e) := .br (fun g => h1 g h) (fun g => h2 g h)
end
section
variable {P : Program} (hp : P = Try.prog)
include hp
theorem mset2 (q : CF) (L M : List (List G)) (f : Int → Option RW) (hM : isD M f) (zl zs zh : Z) (X : List (List G)) (x : List Int) (hX : isL .i64 X x) (hx : x.length ≤ 1000) :
    LValid P 13 [.c (.ptr 0 (.lit 0) 9 0), .c (.g (.int .i64 zl)), .c (.g (.int .i64 zs)), .c (.g (.int .i64 zh)), .c (.bor 1 X)] [dirB q L, .mp (some 3) M]
    (fun v m1 => ∃ (e : Int) (f2 : Int → Option RW) (M' : List (List G)), e = setErr q f zl.val zs.val zh.val x ∧ f2 = setDir q f zl.val zs.val zh.val x ∧ isD M' f2 ∧ v = i64 e ∧ m1 = [dirB q L, .mp (some 3) M']) :=
  (mset_ hp q L M f hM zl zs zh X x hX hx).mono fun v m1 ⟨h1, M', h2, h3⟩ => ⟨_, _, M', rfl, rfl, h2, h1, h3⟩
set_option maxHeartbeats 4000000 in
theorem wakes9 : LValid P 11 [] [] (fun v m1 => v = boo true ∧ m1 = []) := by
  refine LValid.boo ?_
  obtain ⟨I, hI⟩ := ref
  have hq : CF.ok ⟨2, 2, 1, 1, 1, 1, 1, []⟩ := ⟨⟨by decide, by decide⟩, ⟨by decide, by decide⟩, ⟨by decide, by decide⟩, ⟨by decide, by decide⟩, ⟨by decide, by decide⟩⟩
  obtain ⟨f, hf⟩ : ∃ f, f = dir0 [] 2 1 0 2 := ⟨_, rfl⟩
  have hf1 : f 1 = none := by rw [hf]; rfl
  have hf0 : f 0 = some ⟨0, -1, [0]⟩ := by rw [hf]; rfl
  have hs : small f := fun z r h => by
    rw [hf] at h
    unfold dir0 at h
    split at h
    · cases h
      rw [wordsL_len]
      decide
    · cases h
  refine fn_sim hI (mo hp) (cc hp c11) fun Post hP => ?_
  cbv
  refine .go [] [] [.rows 1] (show LValid P 8 [.agg (cfg (.lit 2) (.lit 2) (.lit 1) (.lit 1) (.lit 1) (.lit 1) (.lit 1) (.g (.rows 1 []))), .c (.g (.int .i64 (.lit 0)))] [] _ from LValid.sy (mnew hp ⟨2, 2, 1, 1, 1, 1, 1, []⟩ hq [] rfl (.sym 0))) rfl rfl rfl rfl rfl rfl ?_
  rintro v m1 ⟨M, hM, rfl, rfl⟩
  have hM : isD M f := by rw [hf]; exact hM
  clear hf
  cbv
  refine .go [0, 1] [] [] (mrow hp ⟨2, 2, 1, 1, 1, 1, 1, []⟩ [] M f hM hs (.lit 1)) rfl rfl rfl rfl rfl rfl ?_
  rintro v m1 (⟨h1, rfl, rfl⟩ | ⟨r, D, h1, _⟩)
  · cbv
    refine .go [0, 1] [] [] (mrow hp ⟨2, 2, 1, 1, 1, 1, 1, []⟩ [] M f hM hs (.lit 0)) rfl rfl rfl rfl rfl rfl ?_
    rintro v m1 (⟨h2, _⟩ | ⟨r, D, h2, hD, rfl, rfl⟩)
    · rw [show f (Z.lit 0).val = f 0 from rfl, hf0] at h2
      cases h2
    · obtain rfl : r = ⟨0, -1, [0]⟩ := Option.some.inj (h2.symm.trans hf0)
      have hDl : I.len D = 1 := by rw [hI]; exact hD.len
      cbv
      refine br_t (show I.not false = true from by rw [hI]; rfl) ?_
      cbv
      refine br_t rfl ?_
      cbv
      refine br_t (show I.cmp .eql 0 0 = true from by rw [hI]; rfl) ?_
      cbv
      refine br_t (show I.cmp .eql (-1) (-1) = true from by rw [hI]; rfl) ?_
      cbv
      exact hP _ _ [] [] _ _ .nil rfl rfl rfl rfl rfl ⟨_, rfl, (show I.cmp .eql (I.ofNat (I.len D)) 1 = true from by rw [hDl, hI]; rfl), rfl⟩
  · rw [show f (Z.lit 1).val = f 1 from rfl, hf1] at h1
    cases h1
end
end Go.Proofs.Ythkkodmidnpmeaa.E
