/- The environment of the seat. -/
import Derived.Test.YteeigkbjjoedoaaAEnvB
import Derived.Test.YteeigkbjjoedoaaAInfoA
import Derived.Test.YteeigkbjjoedoaaATypT
import Derived.Test.YteeigkbjjoedoaaAOpsQ
import Derived.Test.YteeigkbjjoedoaaARow4
namespace Go.Proofs.Yteeigkbjjoedoaa
open Go.Abs
noncomputable def E : Env := envOf tyTab elTab fnTab (infoOf infoTab)
theorem infoInl : (infoTab.all fun p => !p.2.inl) = true := by kernel_rfl
theorem inlOK (L) : InlOK E L := inlOK_none (infoOf_inl infoInl) L
theorem e6 : ∀ f, (infoOf infoTab f).ext = true → InsOK Try.prog f := ext_none (by kernel_rfl)
end Go.Proofs.Yteeigkbjjoedoaa
