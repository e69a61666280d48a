/- A part of the proof. -/
import Derived.Test.YtojcnkikcekgjaaASpec
namespace Go.Proofs.Ytojcnkikcekgjaa
open Go.Abs
abbrev opT : Ty := .pair (.int .i64) (.pair (.int .i64) (.pair (.int .i64) (.pair (.int .i64) (.pair (.int .i64) .unit))))
end Go.Proofs.Ytojcnkikcekgjaa
