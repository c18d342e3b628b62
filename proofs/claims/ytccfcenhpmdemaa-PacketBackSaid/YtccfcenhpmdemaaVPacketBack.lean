/- PacketBack, with its arguments as they are read. -/
import Derived.Test.YtccfcenhpmdemaaUBack
import Derived.Test.YtccfcenhpmdemaaK
namespace Go.Proofs.Ytccfcenhpmdemaa.B
open Go.RowKit Go.Proofs.YtccfcenhpmdemaaW.PrintWords Go.Proofs.Ytccfcenhpmdemaa.E
set_option linter.unusedVariables false
theorem cells_nil {F : Env} {m : Mem} {w : World} : ∀ (i : Nat) (x : C), ([] : List C)[i]? = some x → ∃ u, ([] : List Value)[i]? = some u ∧ CRep F m w x u := fun i x h => by simp at h
theorem cells_cons {F : Env} {m : Mem} {w : World} {x : C} {u : Value} {l : List C} {us : List Value} (h : CRep F m w x u) (hl : ∀ (i : Nat) (x : C), l[i]? = some x → ∃ u, us[i]? = some u ∧ CRep F m w x u) :
    ∀ (i : Nat) (y : C), (x :: l)[i]? = some y → ∃ u', (u :: us)[i]? = some u' ∧ CRep F m w y u' := fun i y hi => by
  cases i with
  | zero => simp at hi; subst hi; exact ⟨u, rfl, h⟩
  | succ i => simpa using hl i y (by simpa using hi)
theorem arg_agg {w : World} {l : List C} {us : List Value} (h0 : us.length = l.length) (h : ∀ (i : Nat) (x : C), l[i]? = some x → ∃ u, us[i]? = some u ∧ CRep (nought w) [] w x u) : V1Rep (nought w) [] w (.agg l) (.agg us.toArray) :=
  ⟨us.toArray, rfl, by simpa using h0, fun i x hi => by simpa using h i x hi⟩
theorem cell_g {w : World} {x : G} {u : Value} (h : GRep (fun k => k < w.heap.size) w x u) : CRep (nought w) [] w (.g x) u := h
theorem lawPacketBack (w : World) (cs0 : List Value) (x0 : GPacket) (r0 : kGPacket.K w x0 cs0) (w0 : wfGPacket x0) (a1 : Int) (w1 : (Lit.int .i64 a1).wf = true) (a2 : Int) (w2 : (Lit.int .u16 a2).wf = true) :
    Calls Try.prog 9 #[.agg cs0.toArray, .int .i64 a1, .int .u16 a2] w fun e w' => e = .returned (.bool true) ∧ Below w.heap.size w w' := by
  obtain ⟨AA0, cc0, rfl, mm0, gg0⟩ := kGPacket_open r0
  exact law_calls (E.back rfl x0.kind x0.from_ x0.to_ x0.iD x0.line x0.ptr x0.state x0.flag _ x0.data rfl (fun y h => wf64 (w0.2.2.2.2.2.2.2.2 y h)) a1 a2 (wordIs w2)) rfl (args_cons (arg_agg rfl (cells_cons (cell_g (.int .i64 (.sym _))) (cells_cons (cell_g (.int .i64 (.sym _))) (cells_cons (cell_g (.int .i64 (.sym _))) (cells_cons (cell_g (.int .i64 (.sym _))) (cells_cons (cell_g (.int .i64 (.sym _))) (cells_cons (cell_g (.int .i64 (.sym _))) (cells_cons (cell_g (.int .i64 (.sym _))) (cells_cons (cell_g (.bool (.sym _))) (cells_cons (cell_g (nums_rep gg0 mm0)) cells_nil)))))))))) (args_cons (arg_g (.int .i64 (.sym a1))) (args_cons (arg_g (.int .u16 (.sym a2))) args_nil)))
end Go.Proofs.Ytccfcenhpmdemaa.B
