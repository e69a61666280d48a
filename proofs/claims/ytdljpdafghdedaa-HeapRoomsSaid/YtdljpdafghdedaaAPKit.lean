/- Plain laws for what the lifter prints. -/
import Derived.Test.YtdljpdafghdedaaASpec
set_option linter.unusedVariables false
namespace Go.Abs

theorem brT {b : Bool} {x y : Prop} (hb : b = true) (h : x) : br b x y := by subst hb; exact h
theorem brF {b : Bool} {x y : Prop} (hb : b = false) (h : y) : br b x y := by subst hb; exact h
theorem brA {b : Bool} {x y : Prop} (h1 : x) (h2 : y) : br b x y := by cases b; exact h2; exact h1
theorem br_true {x y : Prop} : br true x y = x := rfl
theorem br_false {x y : Prop} : br false x y = y := rfl
theorem brI {b : Bool} {x y : Prop} : br b x y ↔ (b = true → x) ∧ (b = false → y) := by cases b <;> simp [br]
theorem brP {p : Prop} [Decidable p] {x y : Prop} (h1 : p → x) (h2 : ¬p → y) : br (decide p) x y := by
  by_cases h : p
  · exact brT (decide_eq_true h) (h1 h)
  · exact brF (decide_eq_false h) (h2 h)
theorem brE {a b : Int} {x y : Prop} (h1 : a = b → x) (h2 : a ≠ b → y) : br (a == b) x y := by
  by_cases h : a = b
  · exact brT (beq_iff_eq.2 h) (h1 h)
  · exact brF (beq_eq_false_iff_ne.2 h) (h2 h)
theorem brN {a b : Int} {x y : Prop} (h1 : a ≠ b → x) (h2 : a = b → y) : br (a != b) x y := by
  by_cases h : a = b
  · exact brF (by simp [h]) (h2 h)
  · exact brT (by simp [h]) (h1 h)
/-- one value on both roads -/
theorem br_push {α : Type} {k : α → Prop} {b : Bool} {u v : α} : br b (k u) (k v) = k (br b u v) := by cases b <;> rfl
theorem needS {α : Type} {o : Option α} {v : α} {K : α → Prop} (h : o = some v) (hk : K v) : need False o K := by subst h; exact hk
theorem need_some {α : Type} {v : α} {K : α → Prop} : need False (some v) K = K v := rfl

theorem wrap64 {a : Int} (h1 : -9223372036854775808 ≤ a) (h2 : a ≤ 9223372036854775807) : IntKind.wrap .i64 a = a := by
  simp [IntKind.wrap, IntKind.signed, IntKind.bits]
  omega

theorem eqT_self : ∀ (t : Ty) (x : t.T), eqT t x x = true := by
  intro t
  have hs : ∀ {α : Type} (f : α → α → Bool), (∀ x, f x x = true) → ∀ l : List α, eqTs f l l = true := by
    intro α f hf l
    induction l with
    | nil => rfl
    | cons a r ih => simp [eqTs, hf, ih]
  induction t with
  | int k => intro x; exact beq_self_eq_true (α := Int) x
  | bool => intro x; exact beq_self_eq_true (α := Bool) x
  | str => intro x; exact beq_self_eq_true (α := List UInt8) x
  | opq z => intro x; rfl
  | sl e ih => intro x; exact hs _ ih x
  | pair a b iha ihb => intro x; simp only [eqT, iha, ihb]; rfl
  | unit => intro x; rfl
  | arr n e ih => intro x; exact hs _ ih x

theorem roomS {n b : Nat} (h : n * b ≤ 140737488355328) : roomB n b = true := decide_eq_true h
end Go.Abs
