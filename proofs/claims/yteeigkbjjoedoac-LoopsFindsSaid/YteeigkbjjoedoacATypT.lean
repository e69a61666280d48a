/- A part of the proof. -/
import Derived.Test.YteeigkbjjoedoacASpec
namespace Go.Proofs.Yteeigkbjjoedoac
open Go.Abs
abbrev opT : Ty := .pair (.int .i64) (.pair (.int .i64) (.pair (.int .i64) (.pair (.int .i64) (.pair (.int .i64) .unit))))
end Go.Proofs.Yteeigkbjjoedoac
