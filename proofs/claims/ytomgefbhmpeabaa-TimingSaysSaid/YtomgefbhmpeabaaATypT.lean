/- A part of the proof. -/
import Derived.Test.YtomgefbhmpeabaaASpec
namespace Go.Proofs.Ytomgefbhmpeabaa
open Go.Abs
abbrev opT : Ty := .pair (.int .i64) (.pair (.int .i64) (.pair (.int .i64) (.pair (.int .i64) (.pair (.int .i64) .unit))))
end Go.Proofs.Ytomgefbhmpeabaa
