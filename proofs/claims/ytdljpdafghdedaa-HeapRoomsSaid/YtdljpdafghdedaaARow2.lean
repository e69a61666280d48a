/- From a law's evaluation to its call. -/
import Derived.Test.YtdljpdafghdedaaARow1
import Derived.RowKit3
import Derived.Below
set_option linter.unusedVariables false
namespace Go.Abs

section
variable {P : Program}

theorem start_sim (W : World) : Sim ⟨W, Old W, fun _ => none, []⟩ := by
  have hd : ∀ id, Sto.get ([] : Sto) id = .dead := get_nil
  refine ⟨fun id => ?_, ?_, ?_, fun b h => h, fun id m h => by cases h⟩
  · show ObR W (Old W) _ id (Sto.get ([] : Sto) id)
    rw [hd]; trivial
  · intro id id' m m' b h; rw [hd] at h; cases h
  · rintro b ⟨id, m, h, _⟩; rw [hd] at h; cases h

/-- what a law leaves: nothing of what was there has turned -/
structure Kept (W W' : World) : Prop where
  below : RowKit.Below W.heap.size W W'
  kept : W.keptBut W' (fun _ => False)
  frz : ∀ a, a.block < W.heap.size → W'.frozen? a = W.frozen? a

theorem kept_of {W : World} {s : St} (h : J ⟨W, Old W, fun _ => none, []⟩ s) : Kept W s.w := by
  have ho : ∀ b, ¬ (⟨W, Old W, fun _ => none, []⟩ : St).own b := by
    rintro b ⟨id, m, h, _⟩
    have hd : Sto.get ([] : Sto) id = .dead := get_nil id
    simp only [hd] at h
    cases h
  refine ⟨⟨h.keep.os, h.keep.tape, h.keep.output, h.keep.size, fun i hi => h.keep.block i hi (ho i)⟩, ⟨h.keep.os, h.keep.output, fun i hi => ?_⟩, h.keep.frz⟩
  have hb : s.w.heap[i]? = W.heap[i]? := h.keep.block i hi (ho i)
  have := (World.keptBut_refl W (fun _ => False)).2.2 i hi
  rw [hb]
  exact this

/-- the arguments as data -/
inductive Datas (W : World) : List ((t : Ty) × t.T) → List Value → Prop
  | nil : Datas W [] []
  | cons {t : Ty} {x : t.T} {cs r l} : Imm W (Old W) t x cs → Datas W r l → Datas W (⟨t, x⟩ :: r) (toV t cs :: l)

theorem datas_vvs {W : World} {ρ : Map} : ∀ {l : List ((t : Ty) × t.T)} {cs : List Value}, Datas W l cs → VVs W (Old W) ρ (l.map fun p => .d p.1 p.2) cs
  | _, _, .nil => trivial
  | _, _, .cons h hr => ⟨⟨_, _, .d h, rfl⟩, datas_vvs hr⟩

/-- a law that answers true of these data -/
theorem law_calls {E : Env} (hE : EnvOK P E) {f : FuncId} {W : World} {l : List ((t : Ty) × t.T)} {cs : List Value} (hd : Datas W l cs) (h : ACall E f (l.map fun p => .d p.1 p.2) [] fun v _ => v = .d .bool true) :
    Calls P f cs.toArray W fun e W' => e = .returned (.bool true) ∧ Kept W W' := by
  refine Calls.mono (ACall.sound hE h ⟨W, Old W, fun _ => none, []⟩ cs rfl (start_sim W) (datas_vvs hd)) ?_
  rintro e w' ⟨v, c, s', rfl, rfl, j1, j2, j3, j4⟩
  rw [j4] at j3
  exact ⟨by rw [VV_bool j3], kept_of j1⟩

end
end Go.Abs
