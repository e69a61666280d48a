/- The environment of the seat; slices.Insert over whole numbers is the one that the library's law is about. -/
import Derived.Test.YtomgefbhmpeabaaAEnvB
import Derived.Test.YtomgefbhmpeabaaAInfoA
import Derived.Test.YtomgefbhmpeabaaATypT
import Derived.Test.YtomgefbhmpeabaaAOpsQ
import Derived.Test.YtomgefbhmpeabaaARow4
import Derived.KernelRfl
namespace Go.Proofs.Ytomgefbhmpeabaa
open Go.Abs
set_option maxRecDepth 100000
set_option maxHeartbeats 4000000
noncomputable def E : Env := envOf tyTab elTab fnTab (infoOf infoTab)
theorem infoInl : (infoTab.all fun p => !p.2.inl) = true := by kernel_rfl
theorem inlOK (L) : InlOK E L := inlOK_none (infoOf_inl infoInl) L
def insRen : Go.Shelf.Ren := ⟨fun x => bif Nat.beq x 21 then 29 else bif Nat.beq x 27 then 36 else bif Nat.beq x 28 then 37 else bif Nat.beq x 35 then 40 else bif Nat.beq x 39 then 41 else x, fun x => bif Nat.beq x 0 then 0 else bif Nat.beq x 3 then 3 else bif Nat.beq x 4 then 4 else bif Nat.beq x 22 then 23 else x, fun x => x⟩
theorem insLays : Go.Proofs.Lays2.n21 Try.prog insRen := by
  constructor
  · exact e5
  · exact (Try.func29 : Try.prog.funcs[29]? = _).trans (by kernel_rfl)
  · exact (Try.func36 : Try.prog.funcs[36]? = _).trans (by kernel_rfl)
  · exact (Try.func37 : Try.prog.funcs[37]? = _).trans (by kernel_rfl)
  · exact (Try.func40 : Try.prog.funcs[40]? = _).trans (by kernel_rfl)
  · exact (Try.func41 : Try.prog.funcs[41]? = _).trans (by kernel_rfl)
  · kernel_rfl
  · intro w; kernel_rfl
  · intro w; kernel_rfl
  · intro w; kernel_rfl
  · kernel_rfl
  · intro w; kernel_rfl
  · intro w; kernel_rfl
  · intro w; kernel_rfl
  · kernel_rfl
  · intro w; kernel_rfl
  · intro w; kernel_rfl
  · intro w; kernel_rfl
  · kernel_rfl
  · intro w; kernel_rfl
  · intro w; kernel_rfl
  · intro w; kernel_rfl
  · kernel_rfl
theorem e6 : ∀ f, (infoOf infoTab f).ext = true → InsOK Try.prog f := ext_one 29 ⟨insRen, by kernel_rfl, insLays⟩ (by kernel_rfl)
end Go.Proofs.Ytomgefbhmpeabaa
