/- The kinds of the struct types: written by gen.py (this session's) out of the translation's types. -/
import Derived.Test.YthkkodmidnpmeaaO
import Derived.Test.YthkkodmidnpmeaaRows
namespace Go.Proofs.Ythkkodmidnpmeaa.B
open Go.RowKit Go.Deep Go.Proofs.YthkkodmidnpmeaaW.PrintWords Go.Proofs.YthkkodmidnpmeaaW.PrintLast Go.Proofs.YthkkodmidnpmeaaW.PrintMore

/-! #### chaplet/chapletplay.Setup: type 24 -/
structure GSetup where
  nodes : Int
  lines : Int
  words : Int
  sets : Int
  ways : Int
  out : Int
  in_ : Int
  init : (List Int)
  who : (List Int)
  kinds : (List Int)
  addrs : (List Int)
  values : (List Int)
  deriving DecidableEq
def zGSetup : GSetup := ⟨0, 0, 0, 0, 0, 0, 0, [], [], [], [], []⟩
def kGSetup : Kd GSetup := Kd.iso (Kd.pair (Kd.int .i64) (Kd.pair (Kd.int .i64) (Kd.pair (Kd.int .i64) (Kd.pair (Kd.int .i64) (Kd.pair (Kd.int .i64) (Kd.pair (Kd.int .i64) (Kd.pair (Kd.int .i64) (Kd.pair (Kd.slice 3 (Kd.int .i64)) (Kd.pair (Kd.slice 3 (Kd.int .i64)) (Kd.pair (Kd.slice 3 (Kd.int .i64)) (Kd.pair (Kd.slice 3 (Kd.int .i64)) (Kd.slice 3 (Kd.int .i64))))))))))))) (fun x : GSetup => (x.nodes, x.lines, x.words, x.sets, x.ways, x.out, x.in_, x.init, x.who, x.kinds, x.addrs, x.values))
theorem kGSetup_sz : kGSetup.sz = 12 := rfl
theorem kGSetup_open {w : World} {x : GSetup} {cs : List Value} (h : kGSetup.K w x cs) : ∃ A0 c0, ∃ A1 c1, ∃ A2 c2, ∃ A3 c3, ∃ A4 c4, cs = [.int .i64 x.nodes, .int .i64 x.lines, .int .i64 x.words, .int .i64 x.sets, .int .i64 x.ways, .int .i64 x.out, .int .i64 x.in_, .slice A0 x.init.length c0, .slice A1 x.who.length c1, .slice A2 x.kinds.length c2, .slice A3 x.addrs.length c3, .slice A4 x.values.length c4] ∧ x.init.length ≤ c0 ∧ (Kd.int .i64).C w A0 x.init.length x.init ∧ x.who.length ≤ c1 ∧ (Kd.int .i64).C w A1 x.who.length x.who ∧ x.kinds.length ≤ c2 ∧ (Kd.int .i64).C w A2 x.kinds.length x.kinds ∧ x.addrs.length ≤ c3 ∧ (Kd.int .i64).C w A3 x.addrs.length x.addrs ∧ x.values.length ≤ c4 ∧ (Kd.int .i64).C w A4 x.values.length x.values := by
  obtain ⟨_, _, rfl, rfl, ⟨_, _, rfl, rfl, ⟨_, _, rfl, rfl, ⟨_, _, rfl, rfl, ⟨_, _, rfl, rfl, ⟨_, _, rfl, rfl, ⟨_, _, rfl, rfl, ⟨_, _, rfl, ⟨A0, c0, rfl, l0, h0⟩, ⟨_, _, rfl, ⟨A1, c1, rfl, l1, h1⟩, ⟨_, _, rfl, ⟨A2, c2, rfl, l2, h2⟩, ⟨_, _, rfl, ⟨A3, c3, rfl, l3, h3⟩, ⟨A4, c4, rfl, l4, h4⟩⟩⟩⟩⟩⟩⟩⟩⟩⟩⟩⟩ := h
  exact ⟨A0, c0, A1, c1, A2, c2, A3, c3, A4, c4, rfl, l0, h0, l1, h1, l2, h2, l3, h3, l4, h4⟩
theorem kGSetup_openM {w : World} {base : Nat} {ok : Nat → Prop} {x : GSetup} {cs : List Value} (h : kGSetup.M w base ok x cs) : ∃ v0, ∃ v1, ∃ v2, ∃ v3, ∃ v4, cs = [.int .i64 x.nodes, .int .i64 x.lines, .int .i64 x.words, .int .i64 x.sets, .int .i64 x.ways, .int .i64 x.out, .int .i64 x.in_, v0, v1, v2, v3, v4] ∧ (Kd.int .i64).R 3 w base ok v0 x.init ∧ (Kd.int .i64).R 3 w base ok v1 x.who ∧ (Kd.int .i64).R 3 w base ok v2 x.kinds ∧ (Kd.int .i64).R 3 w base ok v3 x.addrs ∧ (Kd.int .i64).R 3 w base ok v4 x.values := by
  obtain ⟨_, _, rfl, rfl, ⟨_, _, rfl, rfl, ⟨_, _, rfl, rfl, ⟨_, _, rfl, rfl, ⟨_, _, rfl, rfl, ⟨_, _, rfl, rfl, ⟨_, _, rfl, rfl, ⟨_, _, rfl, ⟨v0, rfl, h0⟩, ⟨_, _, rfl, ⟨v1, rfl, h1⟩, ⟨_, _, rfl, ⟨v2, rfl, h2⟩, ⟨_, _, rfl, ⟨v3, rfl, h3⟩, ⟨v4, rfl, h4⟩⟩⟩⟩⟩⟩⟩⟩⟩⟩⟩⟩ := h
  exact ⟨v0, v1, v2, v3, v4, rfl, h0, h1, h2, h3, h4⟩
theorem kGSetup_mk {w : World} {x : GSetup} {A0 : Option Addr} {c0 : Nat} (l0 : x.init.length ≤ c0) (h0 : (Kd.int .i64).C w A0 x.init.length x.init) {A1 : Option Addr} {c1 : Nat} (l1 : x.who.length ≤ c1) (h1 : (Kd.int .i64).C w A1 x.who.length x.who) {A2 : Option Addr} {c2 : Nat} (l2 : x.kinds.length ≤ c2) (h2 : (Kd.int .i64).C w A2 x.kinds.length x.kinds) {A3 : Option Addr} {c3 : Nat} (l3 : x.addrs.length ≤ c3) (h3 : (Kd.int .i64).C w A3 x.addrs.length x.addrs) {A4 : Option Addr} {c4 : Nat} (l4 : x.values.length ≤ c4) (h4 : (Kd.int .i64).C w A4 x.values.length x.values) : kGSetup.K w x [.int .i64 x.nodes, .int .i64 x.lines, .int .i64 x.words, .int .i64 x.sets, .int .i64 x.ways, .int .i64 x.out, .int .i64 x.in_, .slice A0 x.init.length c0, .slice A1 x.who.length c1, .slice A2 x.kinds.length c2, .slice A3 x.addrs.length c3, .slice A4 x.values.length c4] := ⟨[.int .i64 x.nodes], [.int .i64 x.lines, .int .i64 x.words, .int .i64 x.sets, .int .i64 x.ways, .int .i64 x.out, .int .i64 x.in_, .slice A0 x.init.length c0, .slice A1 x.who.length c1, .slice A2 x.kinds.length c2, .slice A3 x.addrs.length c3, .slice A4 x.values.length c4], rfl, rfl, ⟨[.int .i64 x.lines], [.int .i64 x.words, .int .i64 x.sets, .int .i64 x.ways, .int .i64 x.out, .int .i64 x.in_, .slice A0 x.init.length c0, .slice A1 x.who.length c1, .slice A2 x.kinds.length c2, .slice A3 x.addrs.length c3, .slice A4 x.values.length c4], rfl, rfl, ⟨[.int .i64 x.words], [.int .i64 x.sets, .int .i64 x.ways, .int .i64 x.out, .int .i64 x.in_, .slice A0 x.init.length c0, .slice A1 x.who.length c1, .slice A2 x.kinds.length c2, .slice A3 x.addrs.length c3, .slice A4 x.values.length c4], rfl, rfl, ⟨[.int .i64 x.sets], [.int .i64 x.ways, .int .i64 x.out, .int .i64 x.in_, .slice A0 x.init.length c0, .slice A1 x.who.length c1, .slice A2 x.kinds.length c2, .slice A3 x.addrs.length c3, .slice A4 x.values.length c4], rfl, rfl, ⟨[.int .i64 x.ways], [.int .i64 x.out, .int .i64 x.in_, .slice A0 x.init.length c0, .slice A1 x.who.length c1, .slice A2 x.kinds.length c2, .slice A3 x.addrs.length c3, .slice A4 x.values.length c4], rfl, rfl, ⟨[.int .i64 x.out], [.int .i64 x.in_, .slice A0 x.init.length c0, .slice A1 x.who.length c1, .slice A2 x.kinds.length c2, .slice A3 x.addrs.length c3, .slice A4 x.values.length c4], rfl, rfl, ⟨[.int .i64 x.in_], [.slice A0 x.init.length c0, .slice A1 x.who.length c1, .slice A2 x.kinds.length c2, .slice A3 x.addrs.length c3, .slice A4 x.values.length c4], rfl, rfl, ⟨[.slice A0 x.init.length c0], [.slice A1 x.who.length c1, .slice A2 x.kinds.length c2, .slice A3 x.addrs.length c3, .slice A4 x.values.length c4], rfl, ⟨A0, c0, rfl, l0, h0⟩, ⟨[.slice A1 x.who.length c1], [.slice A2 x.kinds.length c2, .slice A3 x.addrs.length c3, .slice A4 x.values.length c4], rfl, ⟨A1, c1, rfl, l1, h1⟩, ⟨[.slice A2 x.kinds.length c2], [.slice A3 x.addrs.length c3, .slice A4 x.values.length c4], rfl, ⟨A2, c2, rfl, l2, h2⟩, ⟨[.slice A3 x.addrs.length c3], [.slice A4 x.values.length c4], rfl, ⟨A3, c3, rfl, l3, h3⟩, ⟨A4, c4, rfl, l4, h4⟩⟩⟩⟩⟩⟩⟩⟩⟩⟩⟩⟩
theorem kGSetup_mkM {w : World} {base : Nat} {ok : Nat → Prop} {x : GSetup} {v0 : Value} (h0 : (Kd.int .i64).R 3 w base ok v0 x.init) {v1 : Value} (h1 : (Kd.int .i64).R 3 w base ok v1 x.who) {v2 : Value} (h2 : (Kd.int .i64).R 3 w base ok v2 x.kinds) {v3 : Value} (h3 : (Kd.int .i64).R 3 w base ok v3 x.addrs) {v4 : Value} (h4 : (Kd.int .i64).R 3 w base ok v4 x.values) : kGSetup.M w base ok x [.int .i64 x.nodes, .int .i64 x.lines, .int .i64 x.words, .int .i64 x.sets, .int .i64 x.ways, .int .i64 x.out, .int .i64 x.in_, v0, v1, v2, v3, v4] := ⟨[.int .i64 x.nodes], [.int .i64 x.lines, .int .i64 x.words, .int .i64 x.sets, .int .i64 x.ways, .int .i64 x.out, .int .i64 x.in_, v0, v1, v2, v3, v4], rfl, rfl, ⟨[.int .i64 x.lines], [.int .i64 x.words, .int .i64 x.sets, .int .i64 x.ways, .int .i64 x.out, .int .i64 x.in_, v0, v1, v2, v3, v4], rfl, rfl, ⟨[.int .i64 x.words], [.int .i64 x.sets, .int .i64 x.ways, .int .i64 x.out, .int .i64 x.in_, v0, v1, v2, v3, v4], rfl, rfl, ⟨[.int .i64 x.sets], [.int .i64 x.ways, .int .i64 x.out, .int .i64 x.in_, v0, v1, v2, v3, v4], rfl, rfl, ⟨[.int .i64 x.ways], [.int .i64 x.out, .int .i64 x.in_, v0, v1, v2, v3, v4], rfl, rfl, ⟨[.int .i64 x.out], [.int .i64 x.in_, v0, v1, v2, v3, v4], rfl, rfl, ⟨[.int .i64 x.in_], [v0, v1, v2, v3, v4], rfl, rfl, ⟨[v0], [v1, v2, v3, v4], rfl, ⟨v0, rfl, h0⟩, ⟨[v1], [v2, v3, v4], rfl, ⟨v1, rfl, h1⟩, ⟨[v2], [v3, v4], rfl, ⟨v2, rfl, h2⟩, ⟨[v3], [v4], rfl, ⟨v3, rfl, h3⟩, ⟨v4, rfl, h4⟩⟩⟩⟩⟩⟩⟩⟩⟩⟩⟩⟩
def wfGSetup (x : GSetup) : Prop := (Lit.int .i64 x.nodes).wf = true ∧ (Lit.int .i64 x.lines).wf = true ∧ (Lit.int .i64 x.words).wf = true ∧ (Lit.int .i64 x.sets).wf = true ∧ (Lit.int .i64 x.ways).wf = true ∧ (Lit.int .i64 x.out).wf = true ∧ (Lit.int .i64 x.in_).wf = true ∧ (∀ y ∈ x.init, (Lit.int .i64 y).wf = true) ∧ (∀ y ∈ x.who, (Lit.int .i64 y).wf = true) ∧ (∀ y ∈ x.kinds, (Lit.int .i64 y).wf = true) ∧ (∀ y ∈ x.addrs, (Lit.int .i64 y).wf = true) ∧ (∀ y ∈ x.values, (Lit.int .i64 y).wf = true)
theorem opGSetup : Rdb Try.prog 24 kGSetup wfGSetup := Rdb.mono (Rdb.struct (d := (Kd.pair (Kd.int .i64) (Kd.pair (Kd.int .i64) (Kd.pair (Kd.int .i64) (Kd.pair (Kd.int .i64) (Kd.pair (Kd.int .i64) (Kd.pair (Kd.int .i64) (Kd.pair (Kd.int .i64) (Kd.pair (Kd.slice 3 (Kd.int .i64)) (Kd.pair (Kd.slice 3 (Kd.int .i64)) (Kd.pair (Kd.slice 3 (Kd.int .i64)) (Kd.pair (Kd.slice 3 (Kd.int .i64)) (Kd.slice 3 (Kd.int .i64)))))))))))))) (f := fun x : GSetup => (x.nodes, x.lines, x.words, x.sets, x.ways, x.out, x.in_, x.init, x.who, x.kinds, x.addrs, x.values)) (g := fun x : Int × Int × Int × Int × Int × Int × Int × (List Int) × (List Int) × (List Int) × (List Int) × (List Int) => (⟨x.1, x.2.1, x.2.2.1, x.2.2.2.1, x.2.2.2.2.1, x.2.2.2.2.2.1, x.2.2.2.2.2.2.1, x.2.2.2.2.2.2.2.1, x.2.2.2.2.2.2.2.2.1, x.2.2.2.2.2.2.2.2.2.1, x.2.2.2.2.2.2.2.2.2.2.1, x.2.2.2.2.2.2.2.2.2.2.2⟩ : GSetup)) (fun _ => rfl) Try.underlying24 (by kernel_rfl) (OpF.cons rfl (by kernel_rfl) (Rdb.int Try.underlying3) (OpF.cons rfl (by kernel_rfl) (Rdb.int Try.underlying3) (OpF.cons rfl (by kernel_rfl) (Rdb.int Try.underlying3) (OpF.cons rfl (by kernel_rfl) (Rdb.int Try.underlying3) (OpF.cons rfl (by kernel_rfl) (Rdb.int Try.underlying3) (OpF.cons rfl (by kernel_rfl) (Rdb.int Try.underlying3) (OpF.cons rfl (by kernel_rfl) (Rdb.int Try.underlying3) (OpF.cons rfl (by kernel_rfl) (Rdb.slice Try.underlying22 (by kernel_rfl) (Rdb.int Try.underlying3)) (OpF.cons rfl (by kernel_rfl) (Rdb.slice Try.underlying22 (by kernel_rfl) (Rdb.int Try.underlying3)) (OpF.cons rfl (by kernel_rfl) (Rdb.slice Try.underlying22 (by kernel_rfl) (Rdb.int Try.underlying3)) (OpF.cons rfl (by kernel_rfl) (Rdb.slice Try.underlying22 (by kernel_rfl) (Rdb.int Try.underlying3)) (OpF.one rfl (by kernel_rfl) (Rdb.slice Try.underlying22 (by kernel_rfl) (Rdb.int Try.underlying3))))))))))))))) (fun _ h => h)

/-! #### chaplet/api.Config: type 26 -/
structure GConfig where
  nodes : Int
  lines : Int
  words : Int
  sets : Int
  ways : Int
  out : Int
  in_ : Int
  init : (List Int)
  deriving DecidableEq
def zGConfig : GConfig := ⟨0, 0, 0, 0, 0, 0, 0, []⟩
def kGConfig : Kd GConfig := Kd.iso (Kd.pair (Kd.int .i64) (Kd.pair (Kd.int .i64) (Kd.pair (Kd.int .i64) (Kd.pair (Kd.int .i64) (Kd.pair (Kd.int .i64) (Kd.pair (Kd.int .i64) (Kd.pair (Kd.int .i64) (Kd.slice 3 (Kd.int .i64))))))))) (fun x : GConfig => (x.nodes, x.lines, x.words, x.sets, x.ways, x.out, x.in_, x.init))
theorem kGConfig_sz : kGConfig.sz = 8 := rfl
theorem kGConfig_open {w : World} {x : GConfig} {cs : List Value} (h : kGConfig.K w x cs) : ∃ A0 c0, cs = [.int .i64 x.nodes, .int .i64 x.lines, .int .i64 x.words, .int .i64 x.sets, .int .i64 x.ways, .int .i64 x.out, .int .i64 x.in_, .slice A0 x.init.length c0] ∧ x.init.length ≤ c0 ∧ (Kd.int .i64).C w A0 x.init.length x.init := by
  obtain ⟨_, _, rfl, rfl, ⟨_, _, rfl, rfl, ⟨_, _, rfl, rfl, ⟨_, _, rfl, rfl, ⟨_, _, rfl, rfl, ⟨_, _, rfl, rfl, ⟨_, _, rfl, rfl, ⟨A0, c0, rfl, l0, h0⟩⟩⟩⟩⟩⟩⟩⟩ := h
  exact ⟨A0, c0, rfl, l0, h0⟩
theorem kGConfig_openM {w : World} {base : Nat} {ok : Nat → Prop} {x : GConfig} {cs : List Value} (h : kGConfig.M w base ok x cs) : ∃ v0, cs = [.int .i64 x.nodes, .int .i64 x.lines, .int .i64 x.words, .int .i64 x.sets, .int .i64 x.ways, .int .i64 x.out, .int .i64 x.in_, v0] ∧ (Kd.int .i64).R 3 w base ok v0 x.init := by
  obtain ⟨_, _, rfl, rfl, ⟨_, _, rfl, rfl, ⟨_, _, rfl, rfl, ⟨_, _, rfl, rfl, ⟨_, _, rfl, rfl, ⟨_, _, rfl, rfl, ⟨_, _, rfl, rfl, ⟨v0, rfl, h0⟩⟩⟩⟩⟩⟩⟩⟩ := h
  exact ⟨v0, rfl, h0⟩
theorem kGConfig_mk {w : World} {x : GConfig} {A0 : Option Addr} {c0 : Nat} (l0 : x.init.length ≤ c0) (h0 : (Kd.int .i64).C w A0 x.init.length x.init) : kGConfig.K w x [.int .i64 x.nodes, .int .i64 x.lines, .int .i64 x.words, .int .i64 x.sets, .int .i64 x.ways, .int .i64 x.out, .int .i64 x.in_, .slice A0 x.init.length c0] := ⟨[.int .i64 x.nodes], [.int .i64 x.lines, .int .i64 x.words, .int .i64 x.sets, .int .i64 x.ways, .int .i64 x.out, .int .i64 x.in_, .slice A0 x.init.length c0], rfl, rfl, ⟨[.int .i64 x.lines], [.int .i64 x.words, .int .i64 x.sets, .int .i64 x.ways, .int .i64 x.out, .int .i64 x.in_, .slice A0 x.init.length c0], rfl, rfl, ⟨[.int .i64 x.words], [.int .i64 x.sets, .int .i64 x.ways, .int .i64 x.out, .int .i64 x.in_, .slice A0 x.init.length c0], rfl, rfl, ⟨[.int .i64 x.sets], [.int .i64 x.ways, .int .i64 x.out, .int .i64 x.in_, .slice A0 x.init.length c0], rfl, rfl, ⟨[.int .i64 x.ways], [.int .i64 x.out, .int .i64 x.in_, .slice A0 x.init.length c0], rfl, rfl, ⟨[.int .i64 x.out], [.int .i64 x.in_, .slice A0 x.init.length c0], rfl, rfl, ⟨[.int .i64 x.in_], [.slice A0 x.init.length c0], rfl, rfl, ⟨A0, c0, rfl, l0, h0⟩⟩⟩⟩⟩⟩⟩⟩
theorem kGConfig_mkM {w : World} {base : Nat} {ok : Nat → Prop} {x : GConfig} {v0 : Value} (h0 : (Kd.int .i64).R 3 w base ok v0 x.init) : kGConfig.M w base ok x [.int .i64 x.nodes, .int .i64 x.lines, .int .i64 x.words, .int .i64 x.sets, .int .i64 x.ways, .int .i64 x.out, .int .i64 x.in_, v0] := ⟨[.int .i64 x.nodes], [.int .i64 x.lines, .int .i64 x.words, .int .i64 x.sets, .int .i64 x.ways, .int .i64 x.out, .int .i64 x.in_, v0], rfl, rfl, ⟨[.int .i64 x.lines], [.int .i64 x.words, .int .i64 x.sets, .int .i64 x.ways, .int .i64 x.out, .int .i64 x.in_, v0], rfl, rfl, ⟨[.int .i64 x.words], [.int .i64 x.sets, .int .i64 x.ways, .int .i64 x.out, .int .i64 x.in_, v0], rfl, rfl, ⟨[.int .i64 x.sets], [.int .i64 x.ways, .int .i64 x.out, .int .i64 x.in_, v0], rfl, rfl, ⟨[.int .i64 x.ways], [.int .i64 x.out, .int .i64 x.in_, v0], rfl, rfl, ⟨[.int .i64 x.out], [.int .i64 x.in_, v0], rfl, rfl, ⟨[.int .i64 x.in_], [v0], rfl, rfl, ⟨v0, rfl, h0⟩⟩⟩⟩⟩⟩⟩⟩
def wfGConfig (x : GConfig) : Prop := (Lit.int .i64 x.nodes).wf = true ∧ (Lit.int .i64 x.lines).wf = true ∧ (Lit.int .i64 x.words).wf = true ∧ (Lit.int .i64 x.sets).wf = true ∧ (Lit.int .i64 x.ways).wf = true ∧ (Lit.int .i64 x.out).wf = true ∧ (Lit.int .i64 x.in_).wf = true ∧ (∀ y ∈ x.init, (Lit.int .i64 y).wf = true)
theorem opGConfig : Rdb Try.prog 26 kGConfig wfGConfig := Rdb.mono (Rdb.struct (d := (Kd.pair (Kd.int .i64) (Kd.pair (Kd.int .i64) (Kd.pair (Kd.int .i64) (Kd.pair (Kd.int .i64) (Kd.pair (Kd.int .i64) (Kd.pair (Kd.int .i64) (Kd.pair (Kd.int .i64) (Kd.slice 3 (Kd.int .i64)))))))))) (f := fun x : GConfig => (x.nodes, x.lines, x.words, x.sets, x.ways, x.out, x.in_, x.init)) (g := fun x : Int × Int × Int × Int × Int × Int × Int × (List Int) => (⟨x.1, x.2.1, x.2.2.1, x.2.2.2.1, x.2.2.2.2.1, x.2.2.2.2.2.1, x.2.2.2.2.2.2.1, x.2.2.2.2.2.2.2⟩ : GConfig)) (fun _ => rfl) Try.underlying26 (by kernel_rfl) (OpF.cons rfl (by kernel_rfl) (Rdb.int Try.underlying3) (OpF.cons rfl (by kernel_rfl) (Rdb.int Try.underlying3) (OpF.cons rfl (by kernel_rfl) (Rdb.int Try.underlying3) (OpF.cons rfl (by kernel_rfl) (Rdb.int Try.underlying3) (OpF.cons rfl (by kernel_rfl) (Rdb.int Try.underlying3) (OpF.cons rfl (by kernel_rfl) (Rdb.int Try.underlying3) (OpF.cons rfl (by kernel_rfl) (Rdb.int Try.underlying3) (OpF.one rfl (by kernel_rfl) (Rdb.slice Try.underlying22 (by kernel_rfl) (Rdb.int Try.underlying3))))))))))) (fun _ h => h)

/-! #### chaplet/memdir.Row: type 32 -/
structure GMemdirRow where
  state : Int
  head : Int
  data : (List Int)
  deriving DecidableEq
def zGMemdirRow : GMemdirRow := ⟨0, 0, []⟩
def kGMemdirRow : Kd GMemdirRow := Kd.iso (Kd.pair (Kd.int .i64) (Kd.pair (Kd.int .i64) (Kd.slice 3 (Kd.int .i64)))) (fun x : GMemdirRow => (x.state, x.head, x.data))
theorem kGMemdirRow_sz : kGMemdirRow.sz = 3 := rfl
theorem kGMemdirRow_open {w : World} {x : GMemdirRow} {cs : List Value} (h : kGMemdirRow.K w x cs) : ∃ A0 c0, cs = [.int .i64 x.state, .int .i64 x.head, .slice A0 x.data.length c0] ∧ x.data.length ≤ c0 ∧ (Kd.int .i64).C w A0 x.data.length x.data := by
  obtain ⟨_, _, rfl, rfl, ⟨_, _, rfl, rfl, ⟨A0, c0, rfl, l0, h0⟩⟩⟩ := h
  exact ⟨A0, c0, rfl, l0, h0⟩
theorem kGMemdirRow_openM {w : World} {base : Nat} {ok : Nat → Prop} {x : GMemdirRow} {cs : List Value} (h : kGMemdirRow.M w base ok x cs) : ∃ v0, cs = [.int .i64 x.state, .int .i64 x.head, v0] ∧ (Kd.int .i64).R 3 w base ok v0 x.data := by
  obtain ⟨_, _, rfl, rfl, ⟨_, _, rfl, rfl, ⟨v0, rfl, h0⟩⟩⟩ := h
  exact ⟨v0, rfl, h0⟩
theorem kGMemdirRow_mk {w : World} {x : GMemdirRow} {A0 : Option Addr} {c0 : Nat} (l0 : x.data.length ≤ c0) (h0 : (Kd.int .i64).C w A0 x.data.length x.data) : kGMemdirRow.K w x [.int .i64 x.state, .int .i64 x.head, .slice A0 x.data.length c0] := ⟨[.int .i64 x.state], [.int .i64 x.head, .slice A0 x.data.length c0], rfl, rfl, ⟨[.int .i64 x.head], [.slice A0 x.data.length c0], rfl, rfl, ⟨A0, c0, rfl, l0, h0⟩⟩⟩
theorem kGMemdirRow_mkM {w : World} {base : Nat} {ok : Nat → Prop} {x : GMemdirRow} {v0 : Value} (h0 : (Kd.int .i64).R 3 w base ok v0 x.data) : kGMemdirRow.M w base ok x [.int .i64 x.state, .int .i64 x.head, v0] := ⟨[.int .i64 x.state], [.int .i64 x.head, v0], rfl, rfl, ⟨[.int .i64 x.head], [v0], rfl, rfl, ⟨v0, rfl, h0⟩⟩⟩
def wfGMemdirRow (x : GMemdirRow) : Prop := (Lit.int .i64 x.state).wf = true ∧ (Lit.int .i64 x.head).wf = true ∧ (∀ y ∈ x.data, (Lit.int .i64 y).wf = true)
theorem opGMemdirRow : Rdb Try.prog 32 kGMemdirRow wfGMemdirRow := Rdb.mono (Rdb.struct (d := (Kd.pair (Kd.int .i64) (Kd.pair (Kd.int .i64) (Kd.slice 3 (Kd.int .i64))))) (f := fun x : GMemdirRow => (x.state, x.head, x.data)) (g := fun x : Int × Int × (List Int) => (⟨x.1, x.2.1, x.2.2⟩ : GMemdirRow)) (fun _ => rfl) Try.underlying32 (by kernel_rfl) (OpF.cons rfl (by kernel_rfl) (Rdb.int Try.underlying3) (OpF.cons rfl (by kernel_rfl) (Rdb.int Try.underlying3) (OpF.one rfl (by kernel_rfl) (Rdb.slice Try.underlying22 (by kernel_rfl) (Rdb.int Try.underlying3)))))) (fun _ h => h)

/-! #### chaplet/chapletref07.Row: type 49 -/
structure GChapletref07Row where
  state : Int
  head : Int
  data : (List Int)
  deriving DecidableEq
def zGChapletref07Row : GChapletref07Row := ⟨0, 0, []⟩
def kGChapletref07Row : Kd GChapletref07Row := Kd.iso (Kd.pair (Kd.int .i64) (Kd.pair (Kd.int .i64) (Kd.slice 3 (Kd.int .i64)))) (fun x : GChapletref07Row => (x.state, x.head, x.data))
theorem kGChapletref07Row_sz : kGChapletref07Row.sz = 3 := rfl
theorem kGChapletref07Row_open {w : World} {x : GChapletref07Row} {cs : List Value} (h : kGChapletref07Row.K w x cs) : ∃ A0 c0, cs = [.int .i64 x.state, .int .i64 x.head, .slice A0 x.data.length c0] ∧ x.data.length ≤ c0 ∧ (Kd.int .i64).C w A0 x.data.length x.data := by
  obtain ⟨_, _, rfl, rfl, ⟨_, _, rfl, rfl, ⟨A0, c0, rfl, l0, h0⟩⟩⟩ := h
  exact ⟨A0, c0, rfl, l0, h0⟩
theorem kGChapletref07Row_openM {w : World} {base : Nat} {ok : Nat → Prop} {x : GChapletref07Row} {cs : List Value} (h : kGChapletref07Row.M w base ok x cs) : ∃ v0, cs = [.int .i64 x.state, .int .i64 x.head, v0] ∧ (Kd.int .i64).R 3 w base ok v0 x.data := by
  obtain ⟨_, _, rfl, rfl, ⟨_, _, rfl, rfl, ⟨v0, rfl, h0⟩⟩⟩ := h
  exact ⟨v0, rfl, h0⟩
theorem kGChapletref07Row_mk {w : World} {x : GChapletref07Row} {A0 : Option Addr} {c0 : Nat} (l0 : x.data.length ≤ c0) (h0 : (Kd.int .i64).C w A0 x.data.length x.data) : kGChapletref07Row.K w x [.int .i64 x.state, .int .i64 x.head, .slice A0 x.data.length c0] := ⟨[.int .i64 x.state], [.int .i64 x.head, .slice A0 x.data.length c0], rfl, rfl, ⟨[.int .i64 x.head], [.slice A0 x.data.length c0], rfl, rfl, ⟨A0, c0, rfl, l0, h0⟩⟩⟩
theorem kGChapletref07Row_mkM {w : World} {base : Nat} {ok : Nat → Prop} {x : GChapletref07Row} {v0 : Value} (h0 : (Kd.int .i64).R 3 w base ok v0 x.data) : kGChapletref07Row.M w base ok x [.int .i64 x.state, .int .i64 x.head, v0] := ⟨[.int .i64 x.state], [.int .i64 x.head, v0], rfl, rfl, ⟨[.int .i64 x.head], [v0], rfl, rfl, ⟨v0, rfl, h0⟩⟩⟩
def wfGChapletref07Row (x : GChapletref07Row) : Prop := (Lit.int .i64 x.state).wf = true ∧ (Lit.int .i64 x.head).wf = true ∧ (∀ y ∈ x.data, (Lit.int .i64 y).wf = true)
theorem opGChapletref07Row : Rdb Try.prog 49 kGChapletref07Row wfGChapletref07Row := Rdb.mono (Rdb.struct (d := (Kd.pair (Kd.int .i64) (Kd.pair (Kd.int .i64) (Kd.slice 3 (Kd.int .i64))))) (f := fun x : GChapletref07Row => (x.state, x.head, x.data)) (g := fun x : Int × Int × (List Int) => (⟨x.1, x.2.1, x.2.2⟩ : GChapletref07Row)) (fun _ => rfl) Try.underlying49 (by kernel_rfl) (OpF.cons rfl (by kernel_rfl) (Rdb.int Try.underlying3) (OpF.cons rfl (by kernel_rfl) (Rdb.int Try.underlying3) (OpF.one rfl (by kernel_rfl) (Rdb.slice Try.underlying22 (by kernel_rfl) (Rdb.int Try.underlying3)))))) (fun _ h => h)

/-! #### chaplet/chapletref07.waiter: type 84 -/
structure GWaiter where
  line : Int
  who : Int
  id : Int
  deriving DecidableEq
def zGWaiter : GWaiter := ⟨0, 0, 0⟩
def kGWaiter : Kd GWaiter := Kd.iso (Kd.pair (Kd.int .i64) (Kd.pair (Kd.int .i64) (Kd.int .i64))) (fun x : GWaiter => (x.line, x.who, x.id))
theorem kGWaiter_sz : kGWaiter.sz = 3 := rfl
theorem kGWaiter_open {w : World} {x : GWaiter} {cs : List Value} (h : kGWaiter.K w x cs) : cs = [.int .i64 x.line, .int .i64 x.who, .int .i64 x.id] := by
  obtain ⟨_, _, rfl, rfl, ⟨_, _, rfl, rfl, rfl⟩⟩ := h
  exact rfl
theorem kGWaiter_openM {w : World} {base : Nat} {ok : Nat → Prop} {x : GWaiter} {cs : List Value} (h : kGWaiter.M w base ok x cs) : cs = [.int .i64 x.line, .int .i64 x.who, .int .i64 x.id] := by
  obtain ⟨_, _, rfl, rfl, ⟨_, _, rfl, rfl, rfl⟩⟩ := h
  exact rfl
theorem kGWaiter_mk {w : World} {x : GWaiter} : kGWaiter.K w x [.int .i64 x.line, .int .i64 x.who, .int .i64 x.id] := ⟨[.int .i64 x.line], [.int .i64 x.who, .int .i64 x.id], rfl, rfl, ⟨[.int .i64 x.who], [.int .i64 x.id], rfl, rfl, rfl⟩⟩
theorem kGWaiter_mkM {w : World} {base : Nat} {ok : Nat → Prop} {x : GWaiter} : kGWaiter.M w base ok x [.int .i64 x.line, .int .i64 x.who, .int .i64 x.id] := ⟨[.int .i64 x.line], [.int .i64 x.who, .int .i64 x.id], rfl, rfl, ⟨[.int .i64 x.who], [.int .i64 x.id], rfl, rfl, rfl⟩⟩
def wfGWaiter (x : GWaiter) : Prop := (Lit.int .i64 x.line).wf = true ∧ (Lit.int .i64 x.who).wf = true ∧ (Lit.int .i64 x.id).wf = true
theorem opGWaiter : Rdb Try.prog 84 kGWaiter wfGWaiter := Rdb.mono (Rdb.struct (d := (Kd.pair (Kd.int .i64) (Kd.pair (Kd.int .i64) (Kd.int .i64)))) (f := fun x : GWaiter => (x.line, x.who, x.id)) (g := fun x : Int × Int × Int => (⟨x.1, x.2.1, x.2.2⟩ : GWaiter)) (fun _ => rfl) Try.underlying84 (by kernel_rfl) (OpF.cons rfl (by kernel_rfl) (Rdb.int Try.underlying3) (OpF.cons rfl (by kernel_rfl) (Rdb.int Try.underlying3) (OpF.one rfl (by kernel_rfl) (Rdb.int Try.underlying3))))) (fun _ h => h)

end Go.Proofs.Ythkkodmidnpmeaa.B
