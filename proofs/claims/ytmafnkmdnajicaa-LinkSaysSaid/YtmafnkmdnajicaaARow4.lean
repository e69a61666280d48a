/- Tables as environments. -/
import Derived.Test.YtmafnkmdnajicaaARow3
import Derived.Test.YtmafnkmdnajicaaASpec
set_option linter.unusedVariables false
namespace Go.Abs

theorem lookup_mem {α : Type} : ∀ {l : List (Nat × α)} {i : Nat} {v : α}, lookup l i = some v → (i, v) ∈ l
  | [], i, v, h => by simp [lookup] at h
  | (k, u) :: r, i, v, h => by
    simp only [lookup] at h
    cases hb : Nat.beq k i with
    | true => rw [hb] at h; cases h; rw [beq_eq.1 hb]; simp
    | false => rw [hb] at h; exact List.mem_cons_of_mem _ (lookup_mem h)

/-- an environment of tables -/
def envOf (ty : List (Nat × Ty × Nat)) (el : List (Nat × Nat)) (fn : List (Nat × Func)) (info : FuncId → FnInfo) : Env := ⟨lookup ty, lookup el, lookup fn, info⟩

theorem envOK_of {P : Program} {ty : List (Nat × Ty × Nat)} {el : List (Nat × Nat)} {fn : List (Nat × Func)} {info : FuncId → FnInfo} (h1 : (ty.all fun p => tyOKb P p.1 p.2.1 p.2.2) = true) (h2 : (el.all fun p => elOKb P p.1 p.2) = true)
    (h3 : ∀ p ∈ fn, P.funcs[p.1]? = some p.2) (h4 : (fn.all fun p => !(p.2.name == "runtime.NumGoroutine")) = true) (h5 : P.follows .mixedOrders = true) (h6 : ∀ f, (info f).ext = true → InsOK P f) : EnvOK P (envOf ty el fn info) := by
  refine ⟨fun t y b h => .of (List.all_eq_true.1 h1 _ (lookup_mem h)), fun t te h => List.all_eq_true.1 h2 _ (lookup_mem h), fun f g h => ⟨h3 _ (lookup_mem h), ?_⟩, h5, h6⟩
  have := List.all_eq_true.1 h4 _ (lookup_mem h)
  simpa using this

theorem ext_none {P : Program} {l : List (Nat × FnInfo)} (h : (l.all fun p => !p.2.ext) = true) (f : FuncId) (hf : (infoOf l f).ext = true) : InsOK P f := by
  unfold infoOf at hf
  split at hf
  · rename_i i hi
    have := List.all_eq_true.1 h _ (lookup_mem hi)
    simp only [Bool.not_eq_true'] at this
    rw [this] at hf; cases hf
  · cases hf
theorem ext_one {P : Program} {l : List (Nat × FnInfo)} (g : FuncId) (hg : InsOK P g) (h : (l.all fun p => !p.2.ext || Nat.beq p.1 g) = true) (f : FuncId) (hf : (infoOf l f).ext = true) : InsOK P f := by
  unfold infoOf at hf
  split at hf
  · rename_i i hi
    have := List.all_eq_true.1 h _ (lookup_mem hi)
    rw [hf] at this
    have e : f = g := beq_eq.1 (by simpa using this)
    rw [e]; exact hg
  · cases hf
end Go.Abs
