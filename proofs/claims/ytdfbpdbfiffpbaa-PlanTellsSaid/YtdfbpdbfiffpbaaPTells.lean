/- PlanTells: whose a line is, which words an address has, what stands there at first, which programs may be: of every setup. -/
import Derived.Test.YtdfbpdbfiffpbaaPL1
import Derived.Test.YtdfbpdbfiffpbaaPL2
import Derived.Test.YtdfbpdbfiffpbaaPL3
import Derived.Test.YtdfbpdbfiffpbaaPL4
namespace Go.Proofs.Ytdfbpdbfiffpbaa.E
open Go
set_option linter.unusedVariables false

section
variable {P : Program} (hp : P = Try.prog)
include hp
theorem ptells (s1 s2 s3 s4 s5 s6 s7 line0 addr0 zm : Int) (l0 W0 K0 A0 V0 B3 B4 B5 : List (List G)) (xs ws ks ax vs b3 b4 b5 : List Int) (h0 : isL .i64 l0 xs) (hW : isL .i64 W0 ws) (hK : isL .i64 K0 ks) (hA : isL .i64 A0 ax) (hV : isL .i64 V0 vs) (hB3 : isL .i64 B3 b3) (hB4 : isL .i64 B4 b4) (hB5 : isL .i64 B5 b5) :
    LValid P 8 [.agg [.g (.int .i64 (.sym s1)), .g (.int .i64 (.sym s2)), .g (.int .i64 (.sym s3)), .g (.int .i64 (.sym s4)), .g (.int .i64 (.sym s5)), .g (.int .i64 (.sym s6)), .g (.int .i64 (.sym s7)), .g (.rows 1 l0), .g (.rows 1 W0), .g (.rows 1 K0), .g (.rows 1 A0), .g (.rows 1 V0)], gi .i64 line0, gi .i64 addr0, .c (.g (.rows 1 B3)), .c (.g (.rows 1 B4)), .c (.g (.rows 1 B5)), gi .i64 zm] [] (fun v _ => ∃ b : BB, b.val = true ∧ v = .one (.c (.g (.bool b)))) := by
  have h := add1_in s1 4 (by omega) (by omega)
  have h : 1 ≤ (CFof s1 s2 s3 s4 s5 s6 s7 xs).a ∧ (CFof s1 s2 s3 s4 s5 s6 s7 xs).a ≤ 4 := h
  have e : (CFof s1 s2 s3 s4 s5 s6 s7 xs).a = 1 ∨ (CFof s1 s2 s3 s4 s5 s6 s7 xs).a = 2 ∨ (CFof s1 s2 s3 s4 s5 s6 s7 xs).a = 3 ∨ (CFof s1 s2 s3 s4 s5 s6 s7 xs).a = 4 := by omega
  rcases e with e | e | e | e
  · exact ptells1 hp s1 s2 s3 s4 s5 s6 s7 line0 addr0 zm l0 W0 K0 A0 V0 B3 B4 B5 xs ws ks ax vs b3 b4 b5 h0 hW hK hA hV hB3 hB4 hB5 e
  · exact ptells2 hp s1 s2 s3 s4 s5 s6 s7 line0 addr0 zm l0 W0 K0 A0 V0 B3 B4 B5 xs ws ks ax vs b3 b4 b5 h0 hW hK hA hV hB3 hB4 hB5 e
  · exact ptells3 hp s1 s2 s3 s4 s5 s6 s7 line0 addr0 zm l0 W0 K0 A0 V0 B3 B4 B5 xs ws ks ax vs b3 b4 b5 h0 hW hK hA hV hB3 hB4 hB5 e
  · exact ptells4 hp s1 s2 s3 s4 s5 s6 s7 line0 addr0 zm l0 W0 K0 A0 V0 B3 B4 B5 xs ws ks ax vs b3 b4 b5 h0 hW hK hA hV hB3 hB4 hB5 e
end
end Go.Proofs.Ytdfbpdbfiffpbaa.E
