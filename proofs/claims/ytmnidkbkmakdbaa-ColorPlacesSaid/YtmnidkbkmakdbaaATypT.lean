/- A part of the proof. -/
import Derived.Test.YtmnidkbkmakdbaaASpec
namespace Go.Proofs.Ytmnidkbkmakdbaa
open Go.Abs
abbrev opT : Ty := .pair (.int .i64) (.pair (.int .i64) (.pair (.int .i64) (.pair (.int .i64) (.pair (.int .i64) .unit))))
end Go.Proofs.Ytmnidkbkmakdbaa
