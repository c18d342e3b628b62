/- The kinds of the struct types: written by gen.py (this session's) out of the translation's types. -/
import Derived.Test.YtkpilokfplpjnaaO
import Derived.Test.YtkpilokfplpjnaaRows
namespace Go.Proofs.Ytkpilokfplpjnaa.B
open Go.RowKit Go.Deep Go.Proofs.YtkpilokfplpjnaaW.PrintWords Go.Proofs.YtkpilokfplpjnaaW.PrintLast Go.Proofs.YtkpilokfplpjnaaW.PrintMore

/-! #### chaplet/api.Op: type 25 -/
structure GOp where
  kind : Int
  addr : Int
  value : Int
  deriving DecidableEq
def zGOp : GOp := ⟨0, 0, 0⟩
def kGOp : Kd GOp := Kd.iso (Kd.pair (Kd.int .i64) (Kd.pair (Kd.int .i64) (Kd.int .i64))) (fun x : GOp => (x.kind, x.addr, x.value))
theorem kGOp_sz : kGOp.sz = 3 := rfl
theorem kGOp_open {w : World} {x : GOp} {cs : List Value} (h : kGOp.K w x cs) : cs = [.int .i64 x.kind, .int .i64 x.addr, .int .i64 x.value] := by
  obtain ⟨_, _, rfl, rfl, ⟨_, _, rfl, rfl, rfl⟩⟩ := h
  exact rfl
theorem kGOp_openM {w : World} {base : Nat} {ok : Nat → Prop} {x : GOp} {cs : List Value} (h : kGOp.M w base ok x cs) : cs = [.int .i64 x.kind, .int .i64 x.addr, .int .i64 x.value] := by
  obtain ⟨_, _, rfl, rfl, ⟨_, _, rfl, rfl, rfl⟩⟩ := h
  exact rfl
theorem kGOp_mk {w : World} {x : GOp} : kGOp.K w x [.int .i64 x.kind, .int .i64 x.addr, .int .i64 x.value] := ⟨[.int .i64 x.kind], [.int .i64 x.addr, .int .i64 x.value], rfl, rfl, ⟨[.int .i64 x.addr], [.int .i64 x.value], rfl, rfl, rfl⟩⟩
theorem kGOp_mkM {w : World} {base : Nat} {ok : Nat → Prop} {x : GOp} : kGOp.M w base ok x [.int .i64 x.kind, .int .i64 x.addr, .int .i64 x.value] := ⟨[.int .i64 x.kind], [.int .i64 x.addr, .int .i64 x.value], rfl, rfl, ⟨[.int .i64 x.addr], [.int .i64 x.value], rfl, rfl, rfl⟩⟩
def wfGOp (x : GOp) : Prop := (Lit.int .i64 x.kind).wf = true ∧ (Lit.int .i64 x.addr).wf = true ∧ (Lit.int .i64 x.value).wf = true
theorem opGOp : Rdb Try.prog 25 kGOp wfGOp := Rdb.mono (Rdb.struct (d := (Kd.pair (Kd.int .i64) (Kd.pair (Kd.int .i64) (Kd.int .i64)))) (f := fun x : GOp => (x.kind, x.addr, x.value)) (g := fun x : Int × Int × Int => (⟨x.1, x.2.1, x.2.2⟩ : GOp)) (fun _ => rfl) Try.underlying25 (by kernel_rfl) (OpF.cons rfl (by kernel_rfl) (Rdb.int Try.underlying3) (OpF.cons rfl (by kernel_rfl) (Rdb.int Try.underlying3) (OpF.one rfl (by kernel_rfl) (Rdb.int Try.underlying3))))) (fun _ h => h)

/-! #### chaplet/proc.Proc: type 44 -/
structure GProc where
  ops : (List GOp)
  values : (List Int)
  begun : Bool
def zGProc : GProc := ⟨[], [], false⟩
def kGProc : Kd GProc := Kd.iso (Kd.pair (Kd.slice 25 kGOp) (Kd.pair (Kd.slice 3 (Kd.int .i64)) Kd.bool)) (fun x : GProc => (x.ops, x.values, x.begun))
theorem kGProc_sz : kGProc.sz = 3 := rfl
theorem kGProc_open {w : World} {x : GProc} {cs : List Value} (h : kGProc.K w x cs) : ∃ A0 c0, ∃ A1 c1, cs = [.slice A0 x.ops.length c0, .slice A1 x.values.length c1, .bool x.begun] ∧ x.ops.length ≤ c0 ∧ kGOp.C w A0 x.ops.length x.ops ∧ x.values.length ≤ c1 ∧ (Kd.int .i64).C w A1 x.values.length x.values := by
  obtain ⟨_, _, rfl, ⟨A0, c0, rfl, l0, h0⟩, ⟨_, _, rfl, ⟨A1, c1, rfl, l1, h1⟩, rfl⟩⟩ := h
  exact ⟨A0, c0, A1, c1, rfl, l0, h0, l1, h1⟩
theorem kGProc_openM {w : World} {base : Nat} {ok : Nat → Prop} {x : GProc} {cs : List Value} (h : kGProc.M w base ok x cs) : ∃ v0, ∃ v1, cs = [v0, v1, .bool x.begun] ∧ kGOp.R 25 w base ok v0 x.ops ∧ (Kd.int .i64).R 3 w base ok v1 x.values := by
  obtain ⟨_, _, rfl, ⟨v0, rfl, h0⟩, ⟨_, _, rfl, ⟨v1, rfl, h1⟩, rfl⟩⟩ := h
  exact ⟨v0, v1, rfl, h0, h1⟩
theorem kGProc_mk {w : World} {x : GProc} {A0 : Option Addr} {c0 : Nat} (l0 : x.ops.length ≤ c0) (h0 : kGOp.C w A0 x.ops.length x.ops) {A1 : Option Addr} {c1 : Nat} (l1 : x.values.length ≤ c1) (h1 : (Kd.int .i64).C w A1 x.values.length x.values) : kGProc.K w x [.slice A0 x.ops.length c0, .slice A1 x.values.length c1, .bool x.begun] := ⟨[.slice A0 x.ops.length c0], [.slice A1 x.values.length c1, .bool x.begun], rfl, ⟨A0, c0, rfl, l0, h0⟩, ⟨[.slice A1 x.values.length c1], [.bool x.begun], rfl, ⟨A1, c1, rfl, l1, h1⟩, rfl⟩⟩
theorem kGProc_mkM {w : World} {base : Nat} {ok : Nat → Prop} {x : GProc} {v0 : Value} (h0 : kGOp.R 25 w base ok v0 x.ops) {v1 : Value} (h1 : (Kd.int .i64).R 3 w base ok v1 x.values) : kGProc.M w base ok x [v0, v1, .bool x.begun] := ⟨[v0], [v1, .bool x.begun], rfl, ⟨v0, rfl, h0⟩, ⟨[v1], [.bool x.begun], rfl, ⟨v1, rfl, h1⟩, rfl⟩⟩
def wfGProc (x : GProc) : Prop := (∀ y ∈ x.ops, wfGOp y) ∧ (∀ y ∈ x.values, (Lit.int .i64 y).wf = true) ∧ True
theorem opGProc : Rdb Try.prog 44 kGProc wfGProc := Rdb.mono (Rdb.struct (d := (Kd.pair (Kd.slice 25 kGOp) (Kd.pair (Kd.slice 3 (Kd.int .i64)) Kd.bool))) (f := fun x : GProc => (x.ops, x.values, x.begun)) (g := fun x : (List GOp) × (List Int) × Bool => (⟨x.1, x.2.1, x.2.2⟩ : GProc)) (fun _ => rfl) Try.underlying44 (by kernel_rfl) (OpF.cons rfl (by kernel_rfl) (Rdb.slice Try.underlying23 (by kernel_rfl) (opGOp)) (OpF.cons rfl (by kernel_rfl) (Rdb.slice Try.underlying33 (by kernel_rfl) (Rdb.int Try.underlying3)) (OpF.one rfl (by kernel_rfl) (Rdb.bool Try.underlying4))))) (fun _ h => h)

end Go.Proofs.Ytkpilokfplpjnaa.B
