/- A part of the proof. -/
import Derived.Test.YtgbmfhchieahjaaASpec
namespace Go.Proofs.Ytgbmfhchieahjaa
open Go.Abs
abbrev opT : Ty := .pair (.int .i64) (.pair (.int .i64) (.pair (.int .i64) (.pair (.int .i64) (.pair (.int .i64) .unit))))
end Go.Proofs.Ytgbmfhchieahjaa
