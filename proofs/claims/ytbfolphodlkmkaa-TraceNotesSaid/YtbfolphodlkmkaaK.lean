/- The kinds of the struct types: written by gen.py (this session's) out of the translation's types. -/
import Derived.Test.YtbfolphodlkmkaaO
import Derived.Test.YtbfolphodlkmkaaRows
namespace Go.Proofs.Ytbfolphodlkmkaa.B
open Go.RowKit Go.Deep Go.Proofs.YtbfolphodlkmkaaW.PrintWords Go.Proofs.YtbfolphodlkmkaaW.PrintLast Go.Proofs.YtbfolphodlkmkaaW.PrintMore

/-! #### chaplet/api.Event: type 28 -/
structure GEvent where
  node : Int
  index : Int
  done : Bool
  value : Int
  deriving DecidableEq
def zGEvent : GEvent := ⟨0, 0, false, 0⟩
def kGEvent : Kd GEvent := Kd.iso (Kd.pair (Kd.int .i64) (Kd.pair (Kd.int .i64) (Kd.pair Kd.bool (Kd.int .i64)))) (fun x : GEvent => (x.node, x.index, x.done, x.value))
theorem kGEvent_sz : kGEvent.sz = 4 := rfl
theorem kGEvent_open {w : World} {x : GEvent} {cs : List Value} (h : kGEvent.K w x cs) : cs = [.int .i64 x.node, .int .i64 x.index, .bool x.done, .int .i64 x.value] := by
  obtain ⟨_, _, rfl, rfl, ⟨_, _, rfl, rfl, ⟨_, _, rfl, rfl, rfl⟩⟩⟩ := h
  exact rfl
theorem kGEvent_openM {w : World} {base : Nat} {ok : Nat → Prop} {x : GEvent} {cs : List Value} (h : kGEvent.M w base ok x cs) : cs = [.int .i64 x.node, .int .i64 x.index, .bool x.done, .int .i64 x.value] := by
  obtain ⟨_, _, rfl, rfl, ⟨_, _, rfl, rfl, ⟨_, _, rfl, rfl, rfl⟩⟩⟩ := h
  exact rfl
theorem kGEvent_mk {w : World} {x : GEvent} : kGEvent.K w x [.int .i64 x.node, .int .i64 x.index, .bool x.done, .int .i64 x.value] := ⟨[.int .i64 x.node], [.int .i64 x.index, .bool x.done, .int .i64 x.value], rfl, rfl, ⟨[.int .i64 x.index], [.bool x.done, .int .i64 x.value], rfl, rfl, ⟨[.bool x.done], [.int .i64 x.value], rfl, rfl, rfl⟩⟩⟩
theorem kGEvent_mkM {w : World} {base : Nat} {ok : Nat → Prop} {x : GEvent} : kGEvent.M w base ok x [.int .i64 x.node, .int .i64 x.index, .bool x.done, .int .i64 x.value] := ⟨[.int .i64 x.node], [.int .i64 x.index, .bool x.done, .int .i64 x.value], rfl, rfl, ⟨[.int .i64 x.index], [.bool x.done, .int .i64 x.value], rfl, rfl, ⟨[.bool x.done], [.int .i64 x.value], rfl, rfl, rfl⟩⟩⟩
def wfGEvent (x : GEvent) : Prop := (Lit.int .i64 x.node).wf = true ∧ (Lit.int .i64 x.index).wf = true ∧ True ∧ (Lit.int .i64 x.value).wf = true
theorem opGEvent : Rdb Try.prog 28 kGEvent wfGEvent := Rdb.mono (Rdb.struct (d := (Kd.pair (Kd.int .i64) (Kd.pair (Kd.int .i64) (Kd.pair Kd.bool (Kd.int .i64))))) (f := fun x : GEvent => (x.node, x.index, x.done, x.value)) (g := fun x : Int × Int × Bool × Int => (⟨x.1, x.2.1, x.2.2.1, x.2.2.2⟩ : GEvent)) (fun _ => rfl) Try.underlying28 (by kernel_rfl) (OpF.cons rfl (by kernel_rfl) (Rdb.int Try.underlying3) (OpF.cons rfl (by kernel_rfl) (Rdb.int Try.underlying3) (OpF.cons rfl (by kernel_rfl) (Rdb.bool Try.underlying4) (OpF.one rfl (by kernel_rfl) (Rdb.int Try.underlying3)))))) (fun _ h => h)

/-! #### chaplet/chapletlaw19.Act: type 42 -/
structure GAct where
  node : Int
  index : Int
  value : Int
  done : Bool
  deriving DecidableEq
def zGAct : GAct := ⟨0, 0, 0, false⟩
def kGAct : Kd GAct := Kd.iso (Kd.pair (Kd.int .i64) (Kd.pair (Kd.int .i64) (Kd.pair (Kd.int .i64) Kd.bool))) (fun x : GAct => (x.node, x.index, x.value, x.done))
theorem kGAct_sz : kGAct.sz = 4 := rfl
theorem kGAct_open {w : World} {x : GAct} {cs : List Value} (h : kGAct.K w x cs) : cs = [.int .i64 x.node, .int .i64 x.index, .int .i64 x.value, .bool x.done] := by
  obtain ⟨_, _, rfl, rfl, ⟨_, _, rfl, rfl, ⟨_, _, rfl, rfl, rfl⟩⟩⟩ := h
  exact rfl
theorem kGAct_openM {w : World} {base : Nat} {ok : Nat → Prop} {x : GAct} {cs : List Value} (h : kGAct.M w base ok x cs) : cs = [.int .i64 x.node, .int .i64 x.index, .int .i64 x.value, .bool x.done] := by
  obtain ⟨_, _, rfl, rfl, ⟨_, _, rfl, rfl, ⟨_, _, rfl, rfl, rfl⟩⟩⟩ := h
  exact rfl
theorem kGAct_mk {w : World} {x : GAct} : kGAct.K w x [.int .i64 x.node, .int .i64 x.index, .int .i64 x.value, .bool x.done] := ⟨[.int .i64 x.node], [.int .i64 x.index, .int .i64 x.value, .bool x.done], rfl, rfl, ⟨[.int .i64 x.index], [.int .i64 x.value, .bool x.done], rfl, rfl, ⟨[.int .i64 x.value], [.bool x.done], rfl, rfl, rfl⟩⟩⟩
theorem kGAct_mkM {w : World} {base : Nat} {ok : Nat → Prop} {x : GAct} : kGAct.M w base ok x [.int .i64 x.node, .int .i64 x.index, .int .i64 x.value, .bool x.done] := ⟨[.int .i64 x.node], [.int .i64 x.index, .int .i64 x.value, .bool x.done], rfl, rfl, ⟨[.int .i64 x.index], [.int .i64 x.value, .bool x.done], rfl, rfl, ⟨[.int .i64 x.value], [.bool x.done], rfl, rfl, rfl⟩⟩⟩
def wfGAct (x : GAct) : Prop := (Lit.int .i64 x.node).wf = true ∧ (Lit.int .i64 x.index).wf = true ∧ (Lit.int .i64 x.value).wf = true ∧ True
theorem opGAct : Rdb Try.prog 42 kGAct wfGAct := Rdb.mono (Rdb.struct (d := (Kd.pair (Kd.int .i64) (Kd.pair (Kd.int .i64) (Kd.pair (Kd.int .i64) Kd.bool)))) (f := fun x : GAct => (x.node, x.index, x.value, x.done)) (g := fun x : Int × Int × Int × Bool => (⟨x.1, x.2.1, x.2.2.1, x.2.2.2⟩ : GAct)) (fun _ => rfl) Try.underlying42 (by kernel_rfl) (OpF.cons rfl (by kernel_rfl) (Rdb.int Try.underlying3) (OpF.cons rfl (by kernel_rfl) (Rdb.int Try.underlying3) (OpF.cons rfl (by kernel_rfl) (Rdb.int Try.underlying3) (OpF.one rfl (by kernel_rfl) (Rdb.bool Try.underlying4)))))) (fun _ h => h)

/-! #### chaplet/trace.Trace: type 51 -/
structure GTrace where
  l : (List GEvent)
def zGTrace : GTrace := ⟨[]⟩
def kGTrace : Kd GTrace := Kd.iso (Kd.slice 28 kGEvent) (fun x : GTrace => x.l)
theorem kGTrace_sz : kGTrace.sz = 1 := rfl
theorem kGTrace_open {w : World} {x : GTrace} {cs : List Value} (h : kGTrace.K w x cs) : ∃ A0 c0, cs = [.slice A0 x.l.length c0] ∧ x.l.length ≤ c0 ∧ kGEvent.C w A0 x.l.length x.l := by
  obtain ⟨A0, c0, rfl, l0, h0⟩ := h
  exact ⟨A0, c0, rfl, l0, h0⟩
theorem kGTrace_openM {w : World} {base : Nat} {ok : Nat → Prop} {x : GTrace} {cs : List Value} (h : kGTrace.M w base ok x cs) : ∃ v0, cs = [v0] ∧ kGEvent.R 28 w base ok v0 x.l := by
  obtain ⟨v0, rfl, h0⟩ := h
  exact ⟨v0, rfl, h0⟩
theorem kGTrace_mk {w : World} {x : GTrace} {A0 : Option Addr} {c0 : Nat} (l0 : x.l.length ≤ c0) (h0 : kGEvent.C w A0 x.l.length x.l) : kGTrace.K w x [.slice A0 x.l.length c0] := ⟨A0, c0, rfl, l0, h0⟩
theorem kGTrace_mkM {w : World} {base : Nat} {ok : Nat → Prop} {x : GTrace} {v0 : Value} (h0 : kGEvent.R 28 w base ok v0 x.l) : kGTrace.M w base ok x [v0] := ⟨v0, rfl, h0⟩
def wfGTrace (x : GTrace) : Prop := (∀ y ∈ x.l, wfGEvent y)
theorem opGTrace : Rdb Try.prog 51 kGTrace wfGTrace := Rdb.mono (Rdb.struct (d := (Kd.slice 28 kGEvent)) (f := fun x : GTrace => x.l) (g := fun x : (List GEvent) => (⟨x⟩ : GTrace)) (fun _ => rfl) Try.underlying51 (by kernel_rfl) (OpF.one rfl (by kernel_rfl) (Rdb.slice Try.underlying25 (by kernel_rfl) (opGEvent)))) (fun _ h => h)

end Go.Proofs.Ytbfolphodlkmkaa.B
