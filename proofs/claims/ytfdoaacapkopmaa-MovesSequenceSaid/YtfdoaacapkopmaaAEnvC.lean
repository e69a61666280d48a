/- The environment of the seat. -/
import Derived.Test.YtfdoaacapkopmaaAEnvB
import Derived.Test.YtfdoaacapkopmaaAInfoA
import Derived.Test.YtfdoaacapkopmaaATypT
import Derived.Test.YtfdoaacapkopmaaAOpsQ
namespace Go.Proofs.Ytfdoaacapkopmaa
open Go.Abs
noncomputable def E : Env := envOf tyTab elTab fnTab (infoOf infoTab)
theorem infoInl : (infoTab.all fun p => !p.2.inl) = true := by kernel_rfl
theorem inlOK (L) : InlOK E L := inlOK_none (infoOf_inl infoInl) L
end Go.Proofs.Ytfdoaacapkopmaa
