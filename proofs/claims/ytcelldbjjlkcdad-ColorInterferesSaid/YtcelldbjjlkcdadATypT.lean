/- A part of the proof. -/
import Derived.Test.YtcelldbjjlkcdadASpec
namespace Go.Proofs.Ytcelldbjjlkcdad
open Go.Abs
abbrev opT : Ty := .pair (.int .i64) (.pair (.int .i64) (.pair (.int .i64) (.pair (.int .i64) (.pair (.int .i64) .unit))))
end Go.Proofs.Ytcelldbjjlkcdad
