/- A part of the proof. -/
import Derived.Test.YtdljpdafghdedaaASpec
namespace Go.Proofs.Ytdljpdafghdedaa
open Go.Abs
abbrev opT : Ty := .pair (.int .i64) (.pair (.int .i64) (.pair (.int .i64) (.pair (.int .i64) (.pair (.int .i64) .unit))))
end Go.Proofs.Ytdljpdafghdedaa
