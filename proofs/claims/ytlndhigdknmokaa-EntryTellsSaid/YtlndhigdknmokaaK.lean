/- The kinds of the struct types: written by gen.py (this session's) out of the translation's types. -/
import Derived.Test.YtlndhigdknmokaaO
import Derived.Test.YtlndhigdknmokaaRows
namespace Go.Proofs.Ytlndhigdknmokaa.B
open Go.RowKit Go.Deep Go.Proofs.YtlndhigdknmokaaW.PrintWords Go.Proofs.YtlndhigdknmokaaW.PrintLast Go.Proofs.YtlndhigdknmokaaW.PrintMore

/-! #### chaplet/entry.Links: type 24 -/
structure GLinks where
  fwd : Int
  back : Int
  deriving DecidableEq
def zGLinks : GLinks := ⟨0, 0⟩
def kGLinks : Kd GLinks := Kd.iso (Kd.pair (Kd.int .i64) (Kd.int .i64)) (fun x : GLinks => (x.fwd, x.back))
theorem kGLinks_sz : kGLinks.sz = 2 := rfl
theorem kGLinks_open {w : World} {x : GLinks} {cs : List Value} (h : kGLinks.K w x cs) : cs = [.int .i64 x.fwd, .int .i64 x.back] := by
  obtain ⟨_, _, rfl, rfl, rfl⟩ := h
  exact rfl
theorem kGLinks_openM {w : World} {base : Nat} {ok : Nat → Prop} {x : GLinks} {cs : List Value} (h : kGLinks.M w base ok x cs) : cs = [.int .i64 x.fwd, .int .i64 x.back] := by
  obtain ⟨_, _, rfl, rfl, rfl⟩ := h
  exact rfl
theorem kGLinks_mk {w : World} {x : GLinks} : kGLinks.K w x [.int .i64 x.fwd, .int .i64 x.back] := ⟨[.int .i64 x.fwd], [.int .i64 x.back], rfl, rfl, rfl⟩
theorem kGLinks_mkM {w : World} {base : Nat} {ok : Nat → Prop} {x : GLinks} : kGLinks.M w base ok x [.int .i64 x.fwd, .int .i64 x.back] := ⟨[.int .i64 x.fwd], [.int .i64 x.back], rfl, rfl, rfl⟩
def wfGLinks (x : GLinks) : Prop := (Lit.int .i64 x.fwd).wf = true ∧ (Lit.int .i64 x.back).wf = true
theorem opGLinks : Rdb Try.prog 24 kGLinks wfGLinks := Rdb.mono (Rdb.struct (d := (Kd.pair (Kd.int .i64) (Kd.int .i64))) (f := fun x : GLinks => (x.fwd, x.back)) (g := fun x : Int × Int => (⟨x.1, x.2⟩ : GLinks)) (fun _ => rfl) Try.underlying24 (by kernel_rfl) (OpF.cons rfl (by kernel_rfl) (Rdb.int Try.underlying3) (OpF.one rfl (by kernel_rfl) (Rdb.int Try.underlying3)))) (fun _ h => h)

/-! #### chaplet/entry.Entry: type 31 -/
structure GEntry where
  links : GLinks
  line : Int
  used : Int
  dirty : Bool
  data : (List Int)
  deriving DecidableEq
def zGEntry : GEntry := ⟨zGLinks, 0, 0, false, []⟩
def kGEntry : Kd GEntry := Kd.iso (Kd.pair kGLinks (Kd.pair (Kd.int .i64) (Kd.pair (Kd.int .i64) (Kd.pair Kd.bool (Kd.slice 3 (Kd.int .i64)))))) (fun x : GEntry => (x.links, x.line, x.used, x.dirty, x.data))
theorem kGEntry_sz : kGEntry.sz = 6 := rfl
theorem kGEntry_open {w : World} {x : GEntry} {cs : List Value} (h : kGEntry.K w x cs) : ∃ A0 c0, cs = [.int .i64 x.links.fwd, .int .i64 x.links.back, .int .i64 x.line, .int .i64 x.used, .bool x.dirty, .slice A0 x.data.length c0] ∧ x.data.length ≤ c0 ∧ (Kd.int .i64).C w A0 x.data.length x.data := by
  obtain ⟨_, _, rfl, ⟨_, _, rfl, rfl, rfl⟩, ⟨_, _, rfl, rfl, ⟨_, _, rfl, rfl, ⟨_, _, rfl, rfl, ⟨A0, c0, rfl, l0, h0⟩⟩⟩⟩⟩ := h
  exact ⟨A0, c0, rfl, l0, h0⟩
theorem kGEntry_openM {w : World} {base : Nat} {ok : Nat → Prop} {x : GEntry} {cs : List Value} (h : kGEntry.M w base ok x cs) : ∃ v0, cs = [.int .i64 x.links.fwd, .int .i64 x.links.back, .int .i64 x.line, .int .i64 x.used, .bool x.dirty, v0] ∧ (Kd.int .i64).R 3 w base ok v0 x.data := by
  obtain ⟨_, _, rfl, ⟨_, _, rfl, rfl, rfl⟩, ⟨_, _, rfl, rfl, ⟨_, _, rfl, rfl, ⟨_, _, rfl, rfl, ⟨v0, rfl, h0⟩⟩⟩⟩⟩ := h
  exact ⟨v0, rfl, h0⟩
theorem kGEntry_mk {w : World} {x : GEntry} {A0 : Option Addr} {c0 : Nat} (l0 : x.data.length ≤ c0) (h0 : (Kd.int .i64).C w A0 x.data.length x.data) : kGEntry.K w x [.int .i64 x.links.fwd, .int .i64 x.links.back, .int .i64 x.line, .int .i64 x.used, .bool x.dirty, .slice A0 x.data.length c0] := ⟨[.int .i64 x.links.fwd, .int .i64 x.links.back], [.int .i64 x.line, .int .i64 x.used, .bool x.dirty, .slice A0 x.data.length c0], rfl, ⟨[.int .i64 x.links.fwd], [.int .i64 x.links.back], rfl, rfl, rfl⟩, ⟨[.int .i64 x.line], [.int .i64 x.used, .bool x.dirty, .slice A0 x.data.length c0], rfl, rfl, ⟨[.int .i64 x.used], [.bool x.dirty, .slice A0 x.data.length c0], rfl, rfl, ⟨[.bool x.dirty], [.slice A0 x.data.length c0], rfl, rfl, ⟨A0, c0, rfl, l0, h0⟩⟩⟩⟩⟩
theorem kGEntry_mkM {w : World} {base : Nat} {ok : Nat → Prop} {x : GEntry} {v0 : Value} (h0 : (Kd.int .i64).R 3 w base ok v0 x.data) : kGEntry.M w base ok x [.int .i64 x.links.fwd, .int .i64 x.links.back, .int .i64 x.line, .int .i64 x.used, .bool x.dirty, v0] := ⟨[.int .i64 x.links.fwd, .int .i64 x.links.back], [.int .i64 x.line, .int .i64 x.used, .bool x.dirty, v0], rfl, ⟨[.int .i64 x.links.fwd], [.int .i64 x.links.back], rfl, rfl, rfl⟩, ⟨[.int .i64 x.line], [.int .i64 x.used, .bool x.dirty, v0], rfl, rfl, ⟨[.int .i64 x.used], [.bool x.dirty, v0], rfl, rfl, ⟨[.bool x.dirty], [v0], rfl, rfl, ⟨v0, rfl, h0⟩⟩⟩⟩⟩
def wfGEntry (x : GEntry) : Prop := wfGLinks x.links ∧ (Lit.int .i64 x.line).wf = true ∧ (Lit.int .i64 x.used).wf = true ∧ True ∧ (∀ y ∈ x.data, (Lit.int .i64 y).wf = true)
theorem opGEntry : Rdb Try.prog 31 kGEntry wfGEntry := Rdb.mono (Rdb.struct (d := (Kd.pair kGLinks (Kd.pair (Kd.int .i64) (Kd.pair (Kd.int .i64) (Kd.pair Kd.bool (Kd.slice 3 (Kd.int .i64))))))) (f := fun x : GEntry => (x.links, x.line, x.used, x.dirty, x.data)) (g := fun x : GLinks × Int × Int × Bool × (List Int) => (⟨x.1, x.2.1, x.2.2.1, x.2.2.2.1, x.2.2.2.2⟩ : GEntry)) (fun _ => rfl) Try.underlying31 (by kernel_rfl) (OpF.cons rfl (by kernel_rfl) (opGLinks) (OpF.cons rfl (by kernel_rfl) (Rdb.int Try.underlying3) (OpF.cons rfl (by kernel_rfl) (Rdb.int Try.underlying3) (OpF.cons rfl (by kernel_rfl) (Rdb.bool Try.underlying4) (OpF.one rfl (by kernel_rfl) (Rdb.slice Try.underlying22 (by kernel_rfl) (Rdb.int Try.underlying3)))))))) (fun _ h => h)

end Go.Proofs.Ytlndhigdknmokaa.B
