/- From a law's evaluation to its call. -/
import Derived.Test.YteeigkbjjoedoaaARow1
import Derived.RowKit3
import Derived.Below
set_option linter.unusedVariables false
namespace Go.Abs
section
variable {P : Program}
theorem start_sim (W : World) : Sim ⟨W, Old W, fun _ => none, []⟩ := by
  have hd : ∀ id, Sto.get ([] : Sto) id = .dead := get_nil
  have ho : ∀ id b, ¬ (⟨W, Old W, fun _ => none, []⟩ : St).owns id b := fun id b h => by
    have h1 := h.1
    simp only [hd] at h1
    cases h1
  refine ⟨fun id => ?_, fun id id' b h => (ho id b h).elim, fun id m hs b h => ?_, fun b ⟨id, h⟩ => (ho id b h).elim, fun b h => h, fun id m h => by cases h⟩
  · show ObR W (Old W) _ id (Sto.get ([] : Sto) id)
    rw [hd]; trivial
  · simp only [hd] at h; cases h
structure Kept (W W' : World) : Prop where
  below : RowKit.Below W.heap.size W W'
  kept : W.keptBut W' (fun _ => False)
  frz : ∀ a, a.block < W.heap.size → W'.frozen? a = W.frozen? a
theorem kept_of {W : World} {s : St} (h : J ⟨W, Old W, fun _ => none, []⟩ s) : Kept W s.w := by
  have ho : ∀ b, ¬ (⟨W, Old W, fun _ => none, []⟩ : St).own b := by
    rintro b ⟨id, h⟩
    have hd : Sto.get ([] : Sto) id = .dead := get_nil id
    have h1 := h.1
    simp only [hd] at h1
    cases h1
  refine ⟨⟨h.keep.os, h.keep.tape, h.keep.output, h.keep.size, fun i hi => h.keep.block i hi (ho i)⟩, ⟨h.keep.os, h.keep.output, fun i hi => ?_⟩, h.keep.frz⟩
  have hb : s.w.heap[i]? = W.heap[i]? := h.keep.block i hi (ho i)
  have := (World.keptBut_refl W (fun _ => False)).2.2 i hi
  rw [hb]
  exact this
inductive Datas (W : World) : List ((t : Ty) × t.T) → List Value → Prop
  | nil : Datas W [] []
  | cons {t : Ty} {x : t.T} {cs r l} : Imm W (Old W) t x cs → Datas W r l → Datas W (⟨t, x⟩ :: r) (toV t cs :: l)
theorem datas_vvs {W : World} {ρ : Map} : ∀ {l : List ((t : Ty) × t.T)} {cs : List Value}, Datas W l cs → VVs W (Old W) ρ (l.map fun p => .d p.1 p.2) cs
  | _, _, .nil => trivial
  | _, _, .cons h hr => ⟨⟨_, _, .d h, rfl⟩, datas_vvs hr⟩
theorem law_calls {E : Env} (hE : EnvOK P E) {f : FuncId} {W : World} {l : List ((t : Ty) × t.T)} {cs : List Value} (hd : Datas W l cs) (h : ACall E f (l.map fun p => .d p.1 p.2) [] fun v _ => v = .d .bool true) :
    Calls P f cs.toArray W fun e W' => e = .returned (.bool true) ∧ Kept W W' := by
  refine Calls.mono (ACall.sound hE h ⟨W, Old W, fun _ => none, []⟩ cs rfl (start_sim W) (datas_vvs hd)) ?_
  rintro e w' ⟨v, c, s', rfl, rfl, j1, j2, j3, j4⟩
  rw [j4] at j3
  exact ⟨by rw [VV_bool j3], kept_of j1⟩
end
end Go.Abs

set_option linter.unusedVariables false
namespace Go.Abs
section
variable {P : Program}
theorem toV_of_ok {W : World} {base : Nat} {ty : Ty} {t : TypeId} {v : Value} (ht : tyb P ty t = true) (hd : dataTy ty = true) (hok : Value.okWide P W .any base t v) (hl : v.cells.toList.length = ty.csz) : v = toV ty v.cells.toList := by
  unfold Value.okWide at hok
  cases ty with
  | int k => rw [int_under ht] at hok; cases v <;> first | rfl | (simp [Cell.okWide, Cell.ok, int_under ht] at hok; done)
  | str => rw [str_under ht] at hok; cases v <;> first | rfl | (simp [Cell.okWide, Cell.ok, str_under ht] at hok; done)
  | bool =>
    have hu : P.underlying t = some .bool := by
      simp only [tyb, Bool.and_eq_true] at ht
      have h2 := ht.2
      split at h2
      · rename_i hu; exact hu
      · cases h2
    rw [hu] at hok; cases v <;> first | rfl | (simp [Cell.okWide, Cell.ok, hu] at hok; done)
  | opq z => cases hd
  | sl e => obtain ⟨te, hu, _⟩ := sl_under ht; rw [hu] at hok; cases v <;> first | rfl | (simp [Cell.okWide, Cell.ok, hu] at hok; done)
  | pair a b => obtain ⟨fs, hu, _⟩ := pair_under ht; rw [hu] at hok; obtain ⟨cs, rfl, _⟩ := hok; simp [toV, Ty.isA, Value.cells]
  | arr n e => obtain ⟨fs, hu, _⟩ := arr_under ht; rw [hu] at hok; obtain ⟨cs, rfl, _⟩ := hok; simp [toV, Ty.isA, Value.cells]
  | unit =>
    have hu : ∃ fs, P.underlying t = some (.struct fs) := by
      simp only [tyb, Bool.and_eq_true] at ht
      have h2 := ht.2
      split at h2
      · rename_i fs hu; exact ⟨fs, hu⟩
      · cases h2
    obtain ⟨fs, hu⟩ := hu
    rw [hu] at hok; obtain ⟨cs, rfl, _⟩ := hok; simp [toV, Ty.isA, Value.cells]
theorem arg_data {H : Type} {enc : TypeId × Value → H} {W : World} {base : Nat} {ty : Ty} {t : TypeId} {v : Value} {d : DataW H} {ps : List MemPlace} (ht : tyb P ty t = true) (hd : dataTy ty = true) (hok : Value.okWide P W .any base t v)
    (h : DataW.Trod enc P W 0 (fun _ => true) true t v d ps) : ∃ x : ty.T, Good ty x ∧ ∀ {l cs}, Datas W l cs → Datas W (⟨ty, x⟩ :: l) (v :: cs) := by
  obtain ⟨fuel, h⟩ := h
  obtain ⟨x, h1, h2⟩ := trod_imm ht hd h
  refine ⟨x, h2, fun hl => ?_⟩
  rw [toV_of_ok ht hd hok h1.length]
  exact .cons h1 hl
end
end Go.Abs
