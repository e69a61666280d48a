/- A part of the proof. -/
import Derived.Test.YtfheeikjlehikaaASpec
namespace Go.Proofs.Ytfheeikjlehikaa
open Go.Abs
abbrev opT : Ty := .pair (.int .i64) (.pair (.int .i64) (.pair (.int .i64) (.pair (.int .i64) (.pair (.int .i64) .unit))))
end Go.Proofs.Ytfheeikjlehikaa
