/- A part of the proof. -/
import Derived.Test.YtlbdabijclkhnaaASpec
namespace Go.Proofs.Ytlbdabijclkhnaa
open Go.Abs
abbrev opT : Ty := .pair (.int .i64) (.pair (.int .i64) (.pair (.int .i64) (.pair (.int .i64) (.pair (.int .i64) .unit))))
end Go.Proofs.Ytlbdabijclkhnaa
