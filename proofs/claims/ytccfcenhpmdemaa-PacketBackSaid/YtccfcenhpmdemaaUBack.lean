/- PacketBack. -/
import Derived.Test.YtccfcenhpmdemaaUM
import Derived.Test.YtccfcenhpmdemaaRO
namespace Go.Proofs.Ytccfcenhpmdemaa.E
open Go
set_option linter.unusedVariables false
set_option maxRecDepth 100000

section
variable {P : Program} (hp : P = Try.prog)
include hp
set_option maxHeartbeats 16000000 in
theorem back (xk xf xt xi xl xp xs : Int) (xb : Bool) (LX : List (List G)) (dx : List Int) (hX : isL .i64 LX dx) (hd : ∀ y ∈ dx, -9223372036854775808 ≤ y ∧ y ≤ 9223372036854775807) (bit : Int) (qm : Int) (hq : ∃ mask, qm = w16 mask) :
    LValid P 9 [.agg [.g (.int .i64 (.sym xk)), .g (.int .i64 (.sym xf)), .g (.int .i64 (.sym xt)), .g (.int .i64 (.sym xi)), .g (.int .i64 (.sym xl)), .g (.int .i64 (.sym xp)), .g (.int .i64 (.sym xs)), .g (.bool (.sym xb)), .g (.rows 1 LX)], gi .i64 bit, gi .u16 qm] [] (fun v _ => ∃ b : BB, b.val = true ∧ v = .one (.c (.g (.bool b)))) := by
  obtain ⟨mask, hq⟩ := hq
  obtain ⟨I, hI⟩ := ref
  have hpl := pplay0 hp ⟨xk, xf, xt, xi, xl, xp, xs, xb, dx⟩ LX hX
  have hck0 := pk0_check ⟨xk, xf, xt, xi, xl, xp, xs, xb, dx⟩
  have hd0 : ∀ y ∈ (pk0 ⟨xk, xf, xt, xi, xl, xp, xs, xb, dx⟩).d, -9223372036854775808 ≤ y ∧ y ≤ 9223372036854775807 := fun y hy => hd y (List.mem_of_mem_take hy)
  refine fn_sim hI (mo hp) (cc hp c9) fun Post hP => ?_
  cbv
  refine .go [] [] [.bor 1] hpl rfl rfl rfl rfl rfl rfl ?_
  rintro v m1 ⟨r, D, hr, hD, rfl, rfl⟩
  rw [← hr] at hck0 hd0
  clear hr hpl
  obtain ⟨k, f, t, i, l, p, s, b, d⟩ := r
  have hD : isL .i64 D d := hD
  have hdl : d.length ≤ 4 := (checkB_in hck0).2.2.2.2.2.2.2
  have hpa := pack hp ⟨.sym k, .sym f, .sym t, .sym i, .sym l, .sym p, .sym s, .sym b⟩ D d hD
  simp only [PZ.pk, Z.val, BB.val] at hpa
  obtain ⟨hbk1, hbk2⟩ := isPk_back _ hck0 hd0
  have hbl : (sealB (packB ⟨k, f, t, i, l, p, s, b, d⟩)).length = 12 + 8 * d.length := by rw [sealB_len, packB_len]; show 10 + 8 * d.length + 2 = _; omega
  have hsp : ∀ (y : Int) (n : Nat), isN y n → n < 8 * (sealB (packB ⟨k, f, t, i, l, p, s, b, d⟩)).length → isPkB (spoilt (mask ||| 32768#16) y 0 (sealB (packB ⟨k, f, t, i, l, p, s, b, d⟩))) = false := fun y n hy h => by
    unfold isN at hy
    rw [hy]
    exact spoilt_none_pk (mask ||| 32768#16) n (packB ⟨k, f, t, i, l, p, s, b, d⟩) (by simp) h
  generalize hbs : sealB (packB ⟨k, f, t, i, l, p, s, b, d⟩) = bs at hpa hbk1 hbk2 hbl hsp
  cbv
  refine .go [] [] [.bor 1] hpa rfl rfl rfl rfl rfl rfl ?_
  rintro v m1 (⟨h, _⟩ | ⟨_, l1, hl1, rfl, rfl⟩)
  · rw [hck0] at h; cases h
  clear hpa
  have hlen1 : I.len l1 = bs.length := by rw [hI]; exact hl1.len
  have hlenD : I.len D = d.length := by rw [hI]; exact hD.len
  cbv
  refine br_f (by rw [hI]; rfl) ?_
  cbv
  refine br_f (show I.cmp .neq (I.ofNat (I.len l1)) (I.bin .add .i64 12 (I.bin .mul .i64 8 (I.ofNat (I.len D)))) = false from by
    rw [hlen1, hlenD, hI, hbl]
    show rCmp .neq (((12 + 8 * d.length : Nat)) : Int) (IntKind.i64.wrap (12 + IntKind.i64.wrap (8 * (d.length : Int)))) = false
    rw [wrap_in (8 * (d.length : Int)) (by omega) (by omega), wrap_in _ (by omega) (by omega)]
    simp [rCmp]) ?_
  cbv
  refine .go [] [] [.bor 1] (unpack hp l1 bs hl1 (by omega)) rfl rfl rfl rfl rfl rfl ?_
  rintro v m1 (⟨_, q2, D2, hq2, hD2, rfl, rfl⟩ | ⟨h, _⟩)
  rotate_left
  · rw [hbk1] at h; cases h
  rw [hbk2] at hq2
  subst hq2
  have hD2 : isL .i64 D2 d := hD2
  have hself : ((⟨k, f, t, i, l, p, s, b, d⟩ : PK) == ⟨k, f, t, i, l, p, s, b, d⟩) = true := by simp
  have hsm := psame hp ⟨.sym k, .sym f, .sym t, .sym i, .sym l, .sym p, .sym s, .sym b⟩ ⟨.sym k, .sym f, .sym t, .sym i, .sym l, .sym p, .sym s, .sym b⟩ D D2 d d hD hD2 (by omega)
  simp only [PZ.pk, Z.val, BB.val, hself] at hsm
  cbv
  refine br_f (show I.cmp .neq 0 0 = false from by rw [hI]; rfl) ?_
  cbv
  refine .go [] [] [.bor 1, .bor 1] hsm rfl rfl rfl rfl rfl rfl ?_
  rintro v m1 ⟨t1, h1, rfl, rfl⟩
  clear hsm
  cbv
  refine br_f (show I.not t1 = false from by rw [h1, hI]; rfl) ?_
  cbv
  refine .go [] [] [] (within hp _ _) rfl rfl rfl rfl rfl rfl ?_
  rintro r m1 ⟨y, hy, rfl, rfl⟩
  have hy1 : ∃ n : Nat, y = (n : Int) ∧ n < 8 * bs.length := by
    have e8 : I.bin .mul .i64 8 (I.ofNat (I.len l1)) = 8 * (bs.length : Int) := by
      rw [hlen1, hI]
      show IntKind.i64.wrap (8 * (bs.length : Int)) = _
      rw [wrap_in] <;> omega
    have hy : y = win bit (I.bin .mul .i64 8 (I.ofNat (I.len l1))) := hy
    rw [e8] at hy
    have := win_in bit (8 * (bs.length : Int)) (by omega) (by omega)
    exact ⟨y.toNat, by omega, by omega⟩
  obtain ⟨n, hn, hnl⟩ := hy1
  have hms : I.bin .or .u16 qm 32768 = w16 (mask ||| 32768#16) := by
    rw [hq, hI]
    show IntKind.u16.wrap (BitVec.ofInt 16 (w16 mask) ||| BitVec.ofInt 16 32768).toNat = _
    have e1 : BitVec.ofInt 16 (w16 mask) = mask := by unfold w16; simp
    rw [e1, IntKind.wrap_u16]
    unfold w16
    have := (mask ||| 32768#16).isLt
    show ((mask ||| 32768#16).toNat : Int) % 65536 = _
    omega
  have hs2 := hsp y n hn hnl
  have hyr : -9223372036854775808 ≤ y ∧ y ≤ 9223372036854775807 := by omega
  clear hsp hq
  generalize hqq : I.bin .or .u16 qm 32768 = q2 at hms
  cbv
  refine .go [] [] [.bor 1] (rspoil hp l1 bs hl1 (by omega) (.sym y) hyr (.sym q2) (mask ||| 32768#16) hms) rfl rfl rfl rfl (by rw [← hqq]; rfl) rfl ?_
  rintro v m1 ⟨l2, hl2, rfl, rfl⟩
  have hl2 : isB l2 (spoilt (mask ||| 32768#16) y 0 bs) := hl2
  have hl2n : (spoilt (mask ||| 32768#16) y 0 bs).length ≤ 1000000000 := by rw [spoilt_len]; omega
  cbv
  refine .go [] [] [.bor 1] (unpack hp l2 _ hl2 hl2n) rfl rfl rfl rfl rfl rfl ?_
  rintro v m1 (⟨h, _⟩ | ⟨_, rfl, rfl⟩)
  · rw [hs2] at h; cases h
  have hs0 : ((⟨0, 0, 0, 0, 0, 0, 0, false, []⟩ : PK) == ⟨0, 0, 0, 0, 0, 0, 0, false, []⟩) = true := by simp
  have hsm := psame hp ⟨.sym 0, .sym 0, .sym 0, .sym 0, .sym 0, .sym 0, .sym 0, .sym false⟩ ⟨.lit 0, .lit 0, .lit 0, .lit 0, .lit 0, .lit 0, .lit 0, .lit false⟩ [] [] [] [] rfl rfl (by decide)
  simp only [PZ.pk, Z.val, BB.val, hs0] at hsm
  cbv
  refine br_t (show I.cmp .eql 2 2 = true from by rw [hI]; rfl) ?_
  cbv
  refine .go [] [] [.bor 1, .bor 1] hsm rfl rfl rfl rfl rfl rfl ?_
  rintro v m1 ⟨t2, h2, rfl, rfl⟩
  cbv
  refine br_t h2 ?_
  cbv
  refine .go [] [] [] (wakes hp) rfl rfl rfl rfl rfl rfl ?_
  rintro v m1 ⟨rfl, rfl⟩
  cbv
  exact hP _ _ [] [] _ _ .nil rfl rfl rfl rfl rfl ⟨_, rfl, rfl⟩
end
end Go.Proofs.Ytccfcenhpmdemaa.E
