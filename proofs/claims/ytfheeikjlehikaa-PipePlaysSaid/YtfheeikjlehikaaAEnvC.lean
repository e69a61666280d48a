/- The environment of the seat; slices.Insert over whole numbers is the one that the library's law is about. -/
import Derived.Test.YtfheeikjlehikaaAEnvB
import Derived.Test.YtfheeikjlehikaaAInfoA
import Derived.Test.YtfheeikjlehikaaATypT
import Derived.Test.YtfheeikjlehikaaAOpsQ
import Derived.Test.YtfheeikjlehikaaARow4
import Derived.KernelRfl
namespace Go.Proofs.Ytfheeikjlehikaa
open Go.Abs
set_option maxRecDepth 100000
set_option maxHeartbeats 4000000
noncomputable def E : Env := envOf tyTab elTab fnTab (infoOf infoTab)
theorem infoInl : (infoTab.all fun p => !p.2.inl) = true := by kernel_rfl
theorem inlOK (L) : InlOK E L := inlOK_none (infoOf_inl infoInl) L
def insRen : Go.Shelf.Ren := ⟨fun x => bif Nat.beq x 21 then 181 else bif Nat.beq x 27 then 223 else bif Nat.beq x 28 then 224 else bif Nat.beq x 35 then 266 else bif Nat.beq x 39 then 157 else x, fun x => bif Nat.beq x 0 then 0 else bif Nat.beq x 3 then 3 else bif Nat.beq x 4 then 4 else bif Nat.beq x 22 then 25 else x, fun x => x⟩
theorem insLays : Go.Proofs.Lays2.n21 Try.prog insRen := by
  constructor
  · exact e5
  · exact (Try.func181 : Try.prog.funcs[181]? = _).trans (by kernel_rfl)
  · exact (Try.func223 : Try.prog.funcs[223]? = _).trans (by kernel_rfl)
  · exact (Try.func224 : Try.prog.funcs[224]? = _).trans (by kernel_rfl)
  · exact (Try.func266 : Try.prog.funcs[266]? = _).trans (by kernel_rfl)
  · exact (Try.func157 : Try.prog.funcs[157]? = _).trans (by kernel_rfl)
  · kernel_rfl
  · intro w; kernel_rfl
  · intro w; kernel_rfl
  · intro w; kernel_rfl
  · kernel_rfl
  · intro w; kernel_rfl
  · intro w; kernel_rfl
  · intro w; kernel_rfl
  · kernel_rfl
  · intro w; kernel_rfl
  · intro w; kernel_rfl
  · intro w; kernel_rfl
  · kernel_rfl
  · intro w; kernel_rfl
  · intro w; kernel_rfl
  · intro w; kernel_rfl
  · kernel_rfl
theorem e6 : ∀ f, (infoOf infoTab f).ext = true → InsOK Try.prog f := ext_one 181 ⟨insRen, by kernel_rfl, insLays⟩ (by kernel_rfl)
end Go.Proofs.Ytfheeikjlehikaa
