/- Tables as environments. -/
import Derived.Test.YteeigkbjjoedoaaARow3
import Derived.Test.YteeigkbjjoedoaaASpec
set_option linter.unusedVariables false
namespace Go.Abs
theorem lookup_mem {α : Type} : ∀ {l : List (Nat × α)} {i : Nat} {v : α}, lookup l i = some v → (i, v) ∈ l
  | [], i, v, h => by simp [lookup] at h
  | (k, u) :: r, i, v, h => by
    simp only [lookup] at h
    cases hb : Nat.beq k i with
    | true => rw [hb] at h; cases h; rw [beq_eq.1 hb]; simp
    | false => rw [hb] at h; exact List.mem_cons_of_mem _ (lookup_mem h)
def isMapB (o : Option (Ty × Nat)) : Bool := match o with | some (.opq .map, _) => true | _ => false
def deepOf (info : FuncId → FnInfo) (k t : Nat) : Bool :=
  match lookup (info 1000000).keep k with
  | some l => mem t l
  | none => false
def envOf (ty : List (Nat × Ty × Nat)) (el : List (Nat × Nat)) (fn : List (Nat × Func)) (info : FuncId → FnInfo) : Env :=
  ⟨lookup ty, fun t => bif isMapB (lookup ty t) then none else lookup el t, fun t => bif isMapB (lookup ty t) then lookup el t else none, deepOf info 0, deepOf info 1, lookup fn, info⟩
theorem envOK_of {P : Program} {ty : List (Nat × Ty × Nat)} {el : List (Nat × Nat)} {fn : List (Nat × Func)} {info : FuncId → FnInfo} (h1 : (ty.all fun p => tyOKb P p.1 p.2.1 p.2.2) = true) (h2 : (el.all fun p => bif isMapB (lookup ty p.1) then kvOKb P p.1 p.2 else elOKb P p.1 p.2) = true)
    (h3 : ∀ p ∈ fn, P.funcs[p.1]? = some p.2) (h4 : (fn.all fun p => !(p.2.name == "runtime.NumGoroutine")) = true) (h5 : P.follows .mixedOrders = true) (h6 : ∀ f, (info f).ext = true → InsOK P f) : EnvOK P (envOf ty el fn info) := by
  refine ⟨fun t y b h => .of (List.all_eq_true.1 h1 _ (lookup_mem h)), fun t te h => ?_, fun t te h => ?_, fun f g h => ⟨h3 _ (lookup_mem h), ?_⟩, h5, h6⟩
  · cases hm : isMapB (lookup ty t) with
    | true => simp only [envOf, hm, cond_true] at h; cases h
    | false =>
      simp only [envOf, hm, cond_false] at h
      have := List.all_eq_true.1 h2 _ (lookup_mem h)
      simpa [hm] using this
  · cases hm : isMapB (lookup ty t) with
    | false => simp only [envOf, hm, cond_false] at h; cases h
    | true =>
      simp only [envOf, hm, cond_true] at h
      have := List.all_eq_true.1 h2 _ (lookup_mem h)
      simpa [hm] using this
  · have := List.all_eq_true.1 h4 _ (lookup_mem h)
    simpa using this
theorem ext_none {P : Program} {l : List (Nat × FnInfo)} (h : (l.all fun p => !p.2.ext) = true) (f : FuncId) (hf : (infoOf l f).ext = true) : InsOK P f := by
  unfold infoOf at hf
  split at hf
  · rename_i i hi
    have := List.all_eq_true.1 h _ (lookup_mem hi)
    simp only [Bool.not_eq_true'] at this
    rw [this] at hf; cases hf
  · cases hf
theorem ext_one {P : Program} {l : List (Nat × FnInfo)} (g : FuncId) (hg : InsOK P g) (h : (l.all fun p => !p.2.ext || Nat.beq p.1 g) = true) (f : FuncId) (hf : (infoOf l f).ext = true) : InsOK P f := by
  unfold infoOf at hf
  split at hf
  · rename_i i hi
    have := List.all_eq_true.1 h _ (lookup_mem hi)
    rw [hf] at this
    have e : f = g := beq_eq.1 (by simpa using this)
    rw [e]; exact hg
  · cases hf
end Go.Abs
