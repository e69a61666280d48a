/- Tables as environments. -/
import Derived.Test.YtfheeikjlehikaaARow3
set_option linter.unusedVariables false
namespace Go.Abs

theorem lookup_mem {α : Type} : ∀ {l : List (Nat × α)} {i : Nat} {v : α}, lookup l i = some v → (i, v) ∈ l
  | [], i, v, h => by simp [lookup] at h
  | (k, u) :: r, i, v, h => by
    simp only [lookup] at h
    cases hb : Nat.beq k i with
    | true => rw [hb] at h; cases h; rw [beq_eq.1 hb]; simp
    | false => rw [hb] at h; exact List.mem_cons_of_mem _ (lookup_mem h)

/-- an environment of tables -/
def envOf (ty : List (Nat × Ty × Nat)) (el : List (Nat × Nat)) (fn : List (Nat × Func)) (info : FuncId → FnInfo) : Env := ⟨lookup ty, lookup el, lookup fn, info⟩

theorem envOK_of {P : Program} {ty : List (Nat × Ty × Nat)} {el : List (Nat × Nat)} {fn : List (Nat × Func)} {info : FuncId → FnInfo} (h1 : (ty.all fun p => tyOKb P p.1 p.2.1 p.2.2) = true) (h2 : (el.all fun p => elOKb P p.1 p.2) = true)
    (h3 : ∀ p ∈ fn, P.funcs[p.1]? = some p.2) (h4 : (fn.all fun p => !(p.2.name == "runtime.NumGoroutine")) = true) (h5 : P.follows .mixedOrders = true) : EnvOK P (envOf ty el fn info) := by
  refine ⟨fun t y b h => .of (List.all_eq_true.1 h1 _ (lookup_mem h)), fun t te h => List.all_eq_true.1 h2 _ (lookup_mem h), fun f g h => ⟨h3 _ (lookup_mem h), ?_⟩, h5⟩
  have := List.all_eq_true.1 h4 _ (lookup_mem h)
  simpa using this

end Go.Abs
