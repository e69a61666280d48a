/- A part of the proof. -/
import Derived.Test.YteeigkbjjoedoaaASpec
namespace Go.Proofs.Yteeigkbjjoedoaa
open Go.Abs
abbrev opT : Ty := .pair (.int .i64) (.pair (.int .i64) (.pair (.int .i64) (.pair (.int .i64) (.pair (.int .i64) .unit))))
end Go.Proofs.Yteeigkbjjoedoaa
