/- A part of the proof. -/
import Derived.Test.YtfdoaacapkopmaaASpec
namespace Go.Proofs.Ytfdoaacapkopmaa
open Go.Abs
abbrev opT : Ty := .pair (.int .i64) (.pair (.int .i64) (.pair (.int .i64) (.pair (.int .i64) (.pair (.int .i64) .unit))))
end Go.Proofs.Ytfdoaacapkopmaa
