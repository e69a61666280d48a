/- From a law's evaluation to its call: the argument's value. -/
import Derived.Test.YtdljpdafghdedaaARow2
set_option linter.unusedVariables false
namespace Go.Abs
section
variable {P : Program}
theorem toV_of_ok {W : World} {base : Nat} {ty : Ty} {t : TypeId} {v : Value} (ht : tyb P ty t = true) (hd : dataTy ty = true) (hok : Value.okWide P W .any base t v) (hl : v.cells.toList.length = ty.csz) : v = toV ty v.cells.toList := by
  unfold Value.okWide at hok
  cases ty with
  | int k => rw [int_under ht] at hok; cases v <;> first | rfl | (simp [Cell.okWide, Cell.ok, int_under ht] at hok; done)
  | str => rw [str_under ht] at hok; cases v <;> first | rfl | (simp [Cell.okWide, Cell.ok, str_under ht] at hok; done)
  | bool =>
    have hu : P.underlying t = some .bool := by
      simp only [tyb, Bool.and_eq_true] at ht
      have h2 := ht.2
      split at h2
      · rename_i hu; exact hu
      · cases h2
    rw [hu] at hok; cases v <;> first | rfl | (simp [Cell.okWide, Cell.ok, hu] at hok; done)
  | opq z => cases hd
  | sl e => obtain ⟨te, hu, _⟩ := sl_under ht; rw [hu] at hok; cases v <;> first | rfl | (simp [Cell.okWide, Cell.ok, hu] at hok; done)
  | pair a b => obtain ⟨fs, hu, _⟩ := pair_under ht; rw [hu] at hok; obtain ⟨cs, rfl, _⟩ := hok; simp [toV, Ty.isA, Value.cells]
  | arr n e => obtain ⟨fs, hu, _⟩ := arr_under ht; rw [hu] at hok; obtain ⟨cs, rfl, _⟩ := hok; simp [toV, Ty.isA, Value.cells]
  | unit =>
    have hu : ∃ fs, P.underlying t = some (.struct fs) := by
      simp only [tyb, Bool.and_eq_true] at ht
      have h2 := ht.2
      split at h2
      · rename_i fs hu; exact ⟨fs, hu⟩
      · cases h2
    obtain ⟨fs, hu⟩ := hu
    rw [hu] at hok; obtain ⟨cs, rfl, _⟩ := hok; simp [toV, Ty.isA, Value.cells]

/-- one argument, read as data -/
theorem arg_data {H : Type} {enc : TypeId × Value → H} {W : World} {base : Nat} {ty : Ty} {t : TypeId} {v : Value} {d : DataW H} {ps : List MemPlace} (ht : tyb P ty t = true) (hd : dataTy ty = true) (hok : Value.okWide P W .any base t v)
    (h : DataW.Trod enc P W 0 (fun _ => true) true t v d ps) : ∃ x : ty.T, Good ty x ∧ ∀ {l cs}, Datas W l cs → Datas W (⟨ty, x⟩ :: l) (v :: cs) := by
  obtain ⟨fuel, h⟩ := h
  obtain ⟨x, h1, h2⟩ := trod_imm ht hd h
  refine ⟨x, h2, fun hl => ?_⟩
  rw [toV_of_ok ht hd hok h1.length]
  exact .cons h1 hl

end
end Go.Abs
