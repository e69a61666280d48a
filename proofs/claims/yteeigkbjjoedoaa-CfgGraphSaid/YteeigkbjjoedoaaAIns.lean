/- slices.Insert over whole numbers: the kit's laws of it, over the evaluator's states. -/
import Derived.Test.YteeigkbjjoedoaaAOpsJ
set_option linter.unusedVariables false
set_option linter.unusedSimpArgs false
namespace Go.Abs
variable {P : Program}
theorem insK_sound {f : FuncId} (hf : InsOK P f) {args : List AV} {σ : Sto} {K : AV → Sto → Prop} (h : insK (fun _ => False) σ args K) : SC P f args σ K := hf.elim
end Go.Abs
