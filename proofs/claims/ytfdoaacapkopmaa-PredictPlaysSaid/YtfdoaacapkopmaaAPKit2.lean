/- More plain laws for what the lifter prints: places of lists, numbers. -/
import Derived.Test.YtfdoaacapkopmaaAPKit
set_option linter.unusedVariables false
set_option linter.unusedSimpArgs false
namespace Go.Abs

theorem at?_nat {α : Type} {xs : List α} {i : Nat} : at? xs (i : Int) = xs[i]? := by
  unfold at?
  rw [if_pos (Int.natCast_nonneg i), Int.toNat_natCast]
theorem needAt {α : Type} {xs : List α} {i : Nat} {K : α → Prop} (h : i < xs.length) (hk : K xs[i]) : need False (at? xs (i : Int)) K := by
  rw [at?_nat, List.getElem?_eq_getElem h]; exact hk
theorem needAtI {α : Type} {xs : List α} {i : Int} {K : α → Prop} (h0 : 0 ≤ i) (h : i.toNat < xs.length) (hk : K xs[i.toNat]) : need False (at? xs i) K := by
  unfold at?
  rw [if_pos h0, List.getElem?_eq_getElem h]; exact hk
theorem needNth {α : Type} {xs : List α} {i : Nat} {K : α → Prop} (h : i < xs.length) (hk : K xs[i]) : need False xs[i]? K := by
  rw [List.getElem?_eq_getElem h]; exact hk
theorem wrapS {n : Nat} (h : n < 9223372036854775807) : IntKind.wrap .i64 ((n : Int) + 1) = ((n + 1 : Nat) : Int) := by
  rw [wrap64 (by omega) (by omega)]; rfl
theorem bnot_beq {a b : Bool} : (!(a == b)) = (a != b) := rfl
theorem brT' {b : Bool} {x y : Prop} (hb : b = true) : br b x y = x := by subst hb; rfl
theorem brF' {b : Bool} {x y : Prop} (hb : b = false) : br b x y = y := by subst hb; rfl
theorem br_ite {p : Prop} [Decidable p] {x y : Prop} : br (decide p) x y = if p then x else y := by
  by_cases h : p
  · rw [if_pos h, brT' (decide_eq_true h)]
  · rw [if_neg h, brF' (decide_eq_false h)]
theorem brD {p : Prop} [Decidable p] {x y : Prop} (hp : p) (h : x) : br (decide p) x y := brT (decide_eq_true hp) h
theorem brDn {p : Prop} [Decidable p] {x y : Prop} (hp : ¬p) (h : y) : br (decide p) x y := brF (decide_eq_false hp) h
/-- on both roads the same -/
theorem brB {b : Bool} {x y : Prop} (h1 : b = true → x) (h2 : b = false → y) : br b x y := by cases b; exact h2 rfl; exact h1 rfl
end Go.Abs
