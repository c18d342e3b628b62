/- PacketUnpacks, with its arguments as they are read. -/
import Derived.Test.YtccfcenhpmdemaaUUnp
import Derived.Test.YtccfcenhpmdemaaK
namespace Go.Proofs.Ytccfcenhpmdemaa.B
open Go.RowKit Go.Proofs.YtccfcenhpmdemaaW.PrintWords Go.Proofs.Ytccfcenhpmdemaa.E
set_option linter.unusedVariables false
theorem cells_nil {F : Env} {m : Mem} {w : World} : ∀ (i : Nat) (x : C), ([] : List C)[i]? = some x → ∃ u, ([] : List Value)[i]? = some u ∧ CRep F m w x u := fun i x h => by simp at h
theorem cells_cons {F : Env} {m : Mem} {w : World} {x : C} {u : Value} {l : List C} {us : List Value} (h : CRep F m w x u) (hl : ∀ (i : Nat) (x : C), l[i]? = some x → ∃ u, us[i]? = some u ∧ CRep F m w x u) :
    ∀ (i : Nat) (y : C), (x :: l)[i]? = some y → ∃ u', (u :: us)[i]? = some u' ∧ CRep F m w y u' := fun i y hi => by
  cases i with
  | zero => simp at hi; subst hi; exact ⟨u, rfl, h⟩
  | succ i => simpa using hl i y (by simpa using hi)
theorem arg_agg {w : World} {l : List C} {us : List Value} (h0 : us.length = l.length) (h : ∀ (i : Nat) (x : C), l[i]? = some x → ∃ u, us[i]? = some u ∧ CRep (nought w) [] w x u) : V1Rep (nought w) [] w (.agg l) (.agg us.toArray) :=
  ⟨us.toArray, rfl, by simpa using h0, fun i x hi => by simpa using h i x hi⟩
theorem cell_g {w : World} {x : G} {u : Value} (h : GRep (fun k => k < w.heap.size) w x u) : CRep (nought w) [] w (.g x) u := h
theorem lawPacketUnpacks (w : World) (A0 : Option Addr) (c0 : Nat) (l0 : (List Int)) (r0 : (Kd.int .u8).C w A0 l0.length l0) (e0 : l0.length ≤ c0) (z0 : l0.length * 1 ≤ 140737488351232) (w0 : (∀ y ∈ l0, (Lit.int .u8 y).wf = true)) (cs1 : List Value) (x1 : GPacket) (r1 : kGPacket.K w x1 cs1) (w1 : wfGPacket x1) (a2 : Int) (w2 : (Lit.int .i64 a2).wf = true) (a3 : Int) (w3 : (Lit.int .i64 a3).wf = true) (a4 : Int) (w4 : (Lit.int .u8 a4).wf = true) (a5 : Bool) (a6 : Bool) :
    Calls Try.prog 8 #[.slice A0 l0.length c0, .agg cs1.toArray, .int .i64 a2, .int .i64 a3, .int .u8 a4, .bool a5, .bool a6] w fun e w' => e = .returned (.bool true) ∧ Below w.heap.size w w' := by
  obtain ⟨AA1, cc1, rfl, mm1, gg1⟩ := kGPacket_open r1
  exact law_calls (E.unpacks_ rfl _ _ (rowsB w0) z0 x1.kind x1.from_ x1.to_ x1.iD x1.line x1.ptr x1.state a2 a3 a4 x1.flag a5 a6 _ x1.data rfl (byteIs w4)) rfl (args_cons (arg_g (nums_rep r0 e0)) (args_cons (arg_agg rfl (cells_cons (cell_g (.int .i64 (.sym _))) (cells_cons (cell_g (.int .i64 (.sym _))) (cells_cons (cell_g (.int .i64 (.sym _))) (cells_cons (cell_g (.int .i64 (.sym _))) (cells_cons (cell_g (.int .i64 (.sym _))) (cells_cons (cell_g (.int .i64 (.sym _))) (cells_cons (cell_g (.int .i64 (.sym _))) (cells_cons (cell_g (.bool (.sym _))) (cells_cons (cell_g (nums_rep gg1 mm1)) cells_nil)))))))))) (args_cons (arg_g (.int .i64 (.sym a2))) (args_cons (arg_g (.int .i64 (.sym a3))) (args_cons (arg_g (.int .u8 (.sym a4))) (args_cons (arg_g (.bool (.sym a5))) (args_cons (arg_g (.bool (.sym a6))) args_nil)))))))
end Go.Proofs.Ytccfcenhpmdemaa.B
