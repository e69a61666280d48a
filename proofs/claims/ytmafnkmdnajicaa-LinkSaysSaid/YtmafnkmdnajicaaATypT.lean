/- A part of the proof. -/
import Derived.Test.YtmafnkmdnajicaaASpec
namespace Go.Proofs.Ytmafnkmdnajicaa
open Go.Abs
abbrev opT : Ty := .pair (.int .i64) (.pair (.int .i64) (.pair (.int .i64) (.pair (.int .i64) (.pair (.int .i64) .unit))))
end Go.Proofs.Ytmafnkmdnajicaa
