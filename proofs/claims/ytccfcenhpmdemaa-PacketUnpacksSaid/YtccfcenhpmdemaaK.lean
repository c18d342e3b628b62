/- The kinds of the struct types: written by gen.py (this session's) out of the translation's types. -/
import Derived.Test.YtccfcenhpmdemaaO
import Derived.Test.YtccfcenhpmdemaaRows
namespace Go.Proofs.Ytccfcenhpmdemaa.B
open Go.RowKit Go.Deep Go.Proofs.YtccfcenhpmdemaaW.PrintWords Go.Proofs.YtccfcenhpmdemaaW.PrintLast Go.Proofs.YtccfcenhpmdemaaW.PrintMore

/-! #### chaplet/api.Packet: type 26 -/
structure GPacket where
  kind : Int
  from_ : Int
  to_ : Int
  iD : Int
  line : Int
  ptr : Int
  state : Int
  flag : Bool
  data : (List Int)
  deriving DecidableEq
def zGPacket : GPacket := ⟨0, 0, 0, 0, 0, 0, 0, false, []⟩
def kGPacket : Kd GPacket := Kd.iso (Kd.pair (Kd.int .i64) (Kd.pair (Kd.int .i64) (Kd.pair (Kd.int .i64) (Kd.pair (Kd.int .i64) (Kd.pair (Kd.int .i64) (Kd.pair (Kd.int .i64) (Kd.pair (Kd.int .i64) (Kd.pair Kd.bool (Kd.slice 3 (Kd.int .i64)))))))))) (fun x : GPacket => (x.kind, x.from_, x.to_, x.iD, x.line, x.ptr, x.state, x.flag, x.data))
theorem kGPacket_sz : kGPacket.sz = 9 := rfl
theorem kGPacket_open {w : World} {x : GPacket} {cs : List Value} (h : kGPacket.K w x cs) : ∃ A0 c0, cs = [.int .i64 x.kind, .int .i64 x.from_, .int .i64 x.to_, .int .i64 x.iD, .int .i64 x.line, .int .i64 x.ptr, .int .i64 x.state, .bool x.flag, .slice A0 x.data.length c0] ∧ x.data.length ≤ c0 ∧ (Kd.int .i64).C w A0 x.data.length x.data := by
  obtain ⟨_, _, rfl, rfl, ⟨_, _, rfl, rfl, ⟨_, _, rfl, rfl, ⟨_, _, rfl, rfl, ⟨_, _, rfl, rfl, ⟨_, _, rfl, rfl, ⟨_, _, rfl, rfl, ⟨_, _, rfl, rfl, ⟨A0, c0, rfl, l0, h0⟩⟩⟩⟩⟩⟩⟩⟩⟩ := h
  exact ⟨A0, c0, rfl, l0, h0⟩
theorem kGPacket_openM {w : World} {base : Nat} {ok : Nat → Prop} {x : GPacket} {cs : List Value} (h : kGPacket.M w base ok x cs) : ∃ v0, cs = [.int .i64 x.kind, .int .i64 x.from_, .int .i64 x.to_, .int .i64 x.iD, .int .i64 x.line, .int .i64 x.ptr, .int .i64 x.state, .bool x.flag, v0] ∧ (Kd.int .i64).R 3 w base ok v0 x.data := by
  obtain ⟨_, _, rfl, rfl, ⟨_, _, rfl, rfl, ⟨_, _, rfl, rfl, ⟨_, _, rfl, rfl, ⟨_, _, rfl, rfl, ⟨_, _, rfl, rfl, ⟨_, _, rfl, rfl, ⟨_, _, rfl, rfl, ⟨v0, rfl, h0⟩⟩⟩⟩⟩⟩⟩⟩⟩ := h
  exact ⟨v0, rfl, h0⟩
theorem kGPacket_mk {w : World} {x : GPacket} {A0 : Option Addr} {c0 : Nat} (l0 : x.data.length ≤ c0) (h0 : (Kd.int .i64).C w A0 x.data.length x.data) : kGPacket.K w x [.int .i64 x.kind, .int .i64 x.from_, .int .i64 x.to_, .int .i64 x.iD, .int .i64 x.line, .int .i64 x.ptr, .int .i64 x.state, .bool x.flag, .slice A0 x.data.length c0] := ⟨[.int .i64 x.kind], [.int .i64 x.from_, .int .i64 x.to_, .int .i64 x.iD, .int .i64 x.line, .int .i64 x.ptr, .int .i64 x.state, .bool x.flag, .slice A0 x.data.length c0], rfl, rfl, ⟨[.int .i64 x.from_], [.int .i64 x.to_, .int .i64 x.iD, .int .i64 x.line, .int .i64 x.ptr, .int .i64 x.state, .bool x.flag, .slice A0 x.data.length c0], rfl, rfl, ⟨[.int .i64 x.to_], [.int .i64 x.iD, .int .i64 x.line, .int .i64 x.ptr, .int .i64 x.state, .bool x.flag, .slice A0 x.data.length c0], rfl, rfl, ⟨[.int .i64 x.iD], [.int .i64 x.line, .int .i64 x.ptr, .int .i64 x.state, .bool x.flag, .slice A0 x.data.length c0], rfl, rfl, ⟨[.int .i64 x.line], [.int .i64 x.ptr, .int .i64 x.state, .bool x.flag, .slice A0 x.data.length c0], rfl, rfl, ⟨[.int .i64 x.ptr], [.int .i64 x.state, .bool x.flag, .slice A0 x.data.length c0], rfl, rfl, ⟨[.int .i64 x.state], [.bool x.flag, .slice A0 x.data.length c0], rfl, rfl, ⟨[.bool x.flag], [.slice A0 x.data.length c0], rfl, rfl, ⟨A0, c0, rfl, l0, h0⟩⟩⟩⟩⟩⟩⟩⟩⟩
theorem kGPacket_mkM {w : World} {base : Nat} {ok : Nat → Prop} {x : GPacket} {v0 : Value} (h0 : (Kd.int .i64).R 3 w base ok v0 x.data) : kGPacket.M w base ok x [.int .i64 x.kind, .int .i64 x.from_, .int .i64 x.to_, .int .i64 x.iD, .int .i64 x.line, .int .i64 x.ptr, .int .i64 x.state, .bool x.flag, v0] := ⟨[.int .i64 x.kind], [.int .i64 x.from_, .int .i64 x.to_, .int .i64 x.iD, .int .i64 x.line, .int .i64 x.ptr, .int .i64 x.state, .bool x.flag, v0], rfl, rfl, ⟨[.int .i64 x.from_], [.int .i64 x.to_, .int .i64 x.iD, .int .i64 x.line, .int .i64 x.ptr, .int .i64 x.state, .bool x.flag, v0], rfl, rfl, ⟨[.int .i64 x.to_], [.int .i64 x.iD, .int .i64 x.line, .int .i64 x.ptr, .int .i64 x.state, .bool x.flag, v0], rfl, rfl, ⟨[.int .i64 x.iD], [.int .i64 x.line, .int .i64 x.ptr, .int .i64 x.state, .bool x.flag, v0], rfl, rfl, ⟨[.int .i64 x.line], [.int .i64 x.ptr, .int .i64 x.state, .bool x.flag, v0], rfl, rfl, ⟨[.int .i64 x.ptr], [.int .i64 x.state, .bool x.flag, v0], rfl, rfl, ⟨[.int .i64 x.state], [.bool x.flag, v0], rfl, rfl, ⟨[.bool x.flag], [v0], rfl, rfl, ⟨v0, rfl, h0⟩⟩⟩⟩⟩⟩⟩⟩⟩
def wfGPacket (x : GPacket) : Prop := (Lit.int .i64 x.kind).wf = true ∧ (Lit.int .i64 x.from_).wf = true ∧ (Lit.int .i64 x.to_).wf = true ∧ (Lit.int .i64 x.iD).wf = true ∧ (Lit.int .i64 x.line).wf = true ∧ (Lit.int .i64 x.ptr).wf = true ∧ (Lit.int .i64 x.state).wf = true ∧ True ∧ (∀ y ∈ x.data, (Lit.int .i64 y).wf = true)
theorem opGPacket : Rdb Try.prog 26 kGPacket wfGPacket := Rdb.mono (Rdb.struct (d := (Kd.pair (Kd.int .i64) (Kd.pair (Kd.int .i64) (Kd.pair (Kd.int .i64) (Kd.pair (Kd.int .i64) (Kd.pair (Kd.int .i64) (Kd.pair (Kd.int .i64) (Kd.pair (Kd.int .i64) (Kd.pair Kd.bool (Kd.slice 3 (Kd.int .i64))))))))))) (f := fun x : GPacket => (x.kind, x.from_, x.to_, x.iD, x.line, x.ptr, x.state, x.flag, x.data)) (g := fun x : Int × Int × Int × Int × Int × Int × Int × Bool × (List Int) => (⟨x.1, x.2.1, x.2.2.1, x.2.2.2.1, x.2.2.2.2.1, x.2.2.2.2.2.1, x.2.2.2.2.2.2.1, x.2.2.2.2.2.2.2.1, x.2.2.2.2.2.2.2.2⟩ : GPacket)) (fun _ => rfl) Try.underlying26 (by kernel_rfl) (OpF.cons rfl (by kernel_rfl) (Rdb.int Try.underlying3) (OpF.cons rfl (by kernel_rfl) (Rdb.int Try.underlying3) (OpF.cons rfl (by kernel_rfl) (Rdb.int Try.underlying3) (OpF.cons rfl (by kernel_rfl) (Rdb.int Try.underlying3) (OpF.cons rfl (by kernel_rfl) (Rdb.int Try.underlying3) (OpF.cons rfl (by kernel_rfl) (Rdb.int Try.underlying3) (OpF.cons rfl (by kernel_rfl) (Rdb.int Try.underlying3) (OpF.cons rfl (by kernel_rfl) (Rdb.bool Try.underlying4) (OpF.one rfl (by kernel_rfl) (Rdb.slice Try.underlying22 (by kernel_rfl) (Rdb.int Try.underlying3)))))))))))) (fun _ h => h)

end Go.Proofs.Ytccfcenhpmdemaa.B
