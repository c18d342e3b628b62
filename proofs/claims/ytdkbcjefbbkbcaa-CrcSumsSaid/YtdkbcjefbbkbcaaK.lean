/- The kinds of the struct types: written by gen.py (this session's) out of the translation's types. -/
import Derived.Test.YtdkbcjefbbkbcaaO
import Derived.Test.YtdkbcjefbbkbcaaRows
namespace Go.Proofs.Ytdkbcjefbbkbcaa.B
open Go.RowKit Go.Deep Go.Proofs.YtdkbcjefbbkbcaaW.PrintWords Go.Proofs.YtdkbcjefbbkbcaaW.PrintLast Go.Proofs.YtdkbcjefbbkbcaaW.PrintMore


end Go.Proofs.Ytdkbcjefbbkbcaa.B
