/- A part of the proof. -/
import Derived.Test.YteeigkbjjoedoaaAEnvA
import Derived.Test.YteeigkbjjoedoaaARow4
import Derived.KernelRfl
namespace Go.Proofs.Yteeigkbjjoedoaa
open Go.Abs
theorem e1 : (tyTab.all fun p => tyOKb Try.prog p.1 p.2.1 p.2.2) = true := by kernel_rfl
theorem e2 : (elTab.all fun p => bif isMapB (lookup tyTab p.1) then kvOKb Try.prog p.1 p.2 else elOKb Try.prog p.1 p.2) = true := by kernel_rfl
theorem e4 : (fnTab.all fun p => !(p.2.name == "runtime.NumGoroutine")) = true := by kernel_rfl
theorem e5 : Try.prog.follows .mixedOrders = true := by kernel_rfl
end Go.Proofs.Yteeigkbjjoedoaa
