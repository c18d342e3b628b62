/- PacketPacks, with its arguments as they are read. -/
import Derived.Test.YtccfcenhpmdemaaPPacks
import Derived.Test.YtccfcenhpmdemaaK
namespace Go.Proofs.Ytccfcenhpmdemaa.B
open Go.RowKit Go.Proofs.YtccfcenhpmdemaaW.PrintWords Go.Proofs.Ytccfcenhpmdemaa.E
set_option linter.unusedVariables false
theorem cells_nil {F : Env} {m : Mem} {w : World} : ∀ (i : Nat) (x : C), ([] : List C)[i]? = some x → ∃ u, ([] : List Value)[i]? = some u ∧ CRep F m w x u := fun i x h => by simp at h
theorem cells_cons {F : Env} {m : Mem} {w : World} {x : C} {u : Value} {l : List C} {us : List Value} (h : CRep F m w x u) (hl : ∀ (i : Nat) (x : C), l[i]? = some x → ∃ u, us[i]? = some u ∧ CRep F m w x u) :
    ∀ (i : Nat) (y : C), (x :: l)[i]? = some y → ∃ u', (u :: us)[i]? = some u' ∧ CRep F m w y u' := fun i y hi => by
  cases i with
  | zero => simp at hi; subst hi; exact ⟨u, rfl, h⟩
  | succ i => simpa using hl i y (by simpa using hi)
theorem arg_agg {w : World} {l : List C} {us : List Value} (h0 : us.length = l.length) (h : ∀ (i : Nat) (x : C), l[i]? = some x → ∃ u, us[i]? = some u ∧ CRep (nought w) [] w x u) : V1Rep (nought w) [] w (.agg l) (.agg us.toArray) :=
  ⟨us.toArray, rfl, by simpa using h0, fun i x hi => by simpa using h i x hi⟩
theorem cell_g {w : World} {x : G} {u : Value} (h : GRep (fun k => k < w.heap.size) w x u) : CRep (nought w) [] w (.g x) u := h
theorem lawPacketPacks (w : World) (cs0 : List Value) (x0 : GPacket) (r0 : kGPacket.K w x0 cs0) (w0 : wfGPacket x0) (cs1 : List Value) (x1 : GPacket) (r1 : kGPacket.K w x1 cs1) (w1 : wfGPacket x1) (a2 : Int) (w2 : (Lit.int .i64 a2).wf = true) (a3 : Int) (w3 : (Lit.int .i64 a3).wf = true) :
    Calls Try.prog 7 #[.agg cs0.toArray, .agg cs1.toArray, .int .i64 a2, .int .i64 a3] w fun e w' => e = .returned (.bool true) ∧ Below w.heap.size w w' := by
  obtain ⟨AA0, cc0, rfl, mm0, gg0⟩ := kGPacket_open r0
  obtain ⟨AA1, cc1, rfl, mm1, gg1⟩ := kGPacket_open r1
  exact law_calls (E.packs rfl x0.kind x0.from_ x0.to_ x0.iD x0.line x0.ptr x0.state x1.kind x1.from_ x1.to_ x1.iD x1.line x1.ptr x1.state a2 a3 x0.flag x1.flag _ _ x0.data x1.data rfl rfl) rfl (args_cons (arg_agg rfl (cells_cons (cell_g (.int .i64 (.sym _))) (cells_cons (cell_g (.int .i64 (.sym _))) (cells_cons (cell_g (.int .i64 (.sym _))) (cells_cons (cell_g (.int .i64 (.sym _))) (cells_cons (cell_g (.int .i64 (.sym _))) (cells_cons (cell_g (.int .i64 (.sym _))) (cells_cons (cell_g (.int .i64 (.sym _))) (cells_cons (cell_g (.bool (.sym _))) (cells_cons (cell_g (nums_rep gg0 mm0)) cells_nil)))))))))) (args_cons (arg_agg rfl (cells_cons (cell_g (.int .i64 (.sym _))) (cells_cons (cell_g (.int .i64 (.sym _))) (cells_cons (cell_g (.int .i64 (.sym _))) (cells_cons (cell_g (.int .i64 (.sym _))) (cells_cons (cell_g (.int .i64 (.sym _))) (cells_cons (cell_g (.int .i64 (.sym _))) (cells_cons (cell_g (.int .i64 (.sym _))) (cells_cons (cell_g (.bool (.sym _))) (cells_cons (cell_g (nums_rep gg1 mm1)) cells_nil)))))))))) (args_cons (arg_g (.int .i64 (.sym a2))) (args_cons (arg_g (.int .i64 (.sym a3))) args_nil))))
end Go.Proofs.Ytccfcenhpmdemaa.B
