/- PlanPrograms: programs that may be, and one thing of them that may not: of every setup. -/
import Derived.Test.YtdfbpdbfiffpbaaPP1
import Derived.Test.YtdfbpdbfiffpbaaPP2
import Derived.Test.YtdfbpdbfiffpbaaPP3
import Derived.Test.YtdfbpdbfiffpbaaPP4
namespace Go.Proofs.Ytdfbpdbfiffpbaa.E
open Go
set_option linter.unusedVariables false

section
variable {P : Program} (hp : P = Try.prog)
include hp
theorem pprogs (s1 s2 s3 s4 s5 s6 s7 n0 : Int) (l0 W0 K0 A0 V0 : List (List G)) (xs ws ks ax vs : List Int) (h0 : isL .i64 l0 xs) (hW : isL .i64 W0 ws) (hK : isL .i64 K0 ks) (hA : isL .i64 A0 ax) (hV : isL .i64 V0 vs) :
    LValid P 7 [.agg [.g (.int .i64 (.sym s1)), .g (.int .i64 (.sym s2)), .g (.int .i64 (.sym s3)), .g (.int .i64 (.sym s4)), .g (.int .i64 (.sym s5)), .g (.int .i64 (.sym s6)), .g (.int .i64 (.sym s7)), .g (.rows 1 l0), .g (.rows 1 W0), .g (.rows 1 K0), .g (.rows 1 A0), .g (.rows 1 V0)], gi .i64 n0] [] (fun v _ => ∃ b : BB, b.val = true ∧ v = .one (.c (.g (.bool b)))) := by
  have h := add1_in s1 4 (by omega) (by omega)
  have h : 1 ≤ (CFof s1 s2 s3 s4 s5 s6 s7 xs).a ∧ (CFof s1 s2 s3 s4 s5 s6 s7 xs).a ≤ 4 := h
  have e : (CFof s1 s2 s3 s4 s5 s6 s7 xs).a = 1 ∨ (CFof s1 s2 s3 s4 s5 s6 s7 xs).a = 2 ∨ (CFof s1 s2 s3 s4 s5 s6 s7 xs).a = 3 ∨ (CFof s1 s2 s3 s4 s5 s6 s7 xs).a = 4 := by omega
  rcases e with e | e | e | e
  · exact pprogs1 hp s1 s2 s3 s4 s5 s6 s7 n0 l0 W0 K0 A0 V0 xs ws ks ax vs h0 hW hK hA hV e
  · exact pprogs2 hp s1 s2 s3 s4 s5 s6 s7 n0 l0 W0 K0 A0 V0 xs ws ks ax vs h0 hW hK hA hV e
  · exact pprogs3 hp s1 s2 s3 s4 s5 s6 s7 n0 l0 W0 K0 A0 V0 xs ws ks ax vs h0 hW hK hA hV e
  · exact pprogs4 hp s1 s2 s3 s4 s5 s6 s7 n0 l0 W0 K0 A0 V0 xs ws ks ax vs h0 hW hK hA hV e
end
end Go.Proofs.Ytdfbpdbfiffpbaa.E
