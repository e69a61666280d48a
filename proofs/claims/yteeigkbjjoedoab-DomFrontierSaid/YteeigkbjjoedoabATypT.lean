/- A part of the proof. -/
import Derived.Test.YteeigkbjjoedoabASpec
namespace Go.Proofs.Yteeigkbjjoedoab
open Go.Abs
abbrev opT : Ty := .pair (.int .i64) (.pair (.int .i64) (.pair (.int .i64) (.pair (.int .i64) (.pair (.int .i64) .unit))))
end Go.Proofs.Yteeigkbjjoedoab
